/-
  Clusters of one's own objects as one thing: what holds of a family of objects, in one predicate; contracts with a cluster. Conditions: the table of types says what the program's says; functions are entered; plans are ones.
  Values in interfaces, and what they are; append to a row whose capacity is told. Condition: the table of types says what the program's says.
-/
import Derived.Test.YtfghccppoilfhaaK1
namespace Go.Proofs.Ytfghccppoilfhaa.V
open Go.RowKit

/-! ### A part of the objects -/
section
variable {P : Program} {tt : TT} {pl : Plans} {s : St} {K : D → St → Prop} {f : FuncId} {args : List D} {E : Env} {H : List (Nat × LO)} {nx : Nat} {σ : Nat → Nat} {τ : Nat → Value} {w : World}

/-! ### Clusters -/
def apartB (H : List (Nat × LO)) : List (Nat × LO) → Bool
  | [] => true
  | (i, _) :: r => match lget H i with
    | none => apartB H r
    | some _ => false
/-! ### New clusters -/
def NewS (P : Program) (f : FuncId) (args : List D) (Q : SepA → Prop) : Prop :=
  hasBody P f ∧ ∀ (w : World) (B : Nat → Prop) (args' : List Value), (∀ b, B b → b < w.heap.size) → reps (baseCtx w B) args args' →
    Calls P f args'.toArray w fun e w' => ∃ b A S, Q A ∧ e = .returned (.pointer (some ⟨b, 0, none⟩)) ∧ Under w.heap.size w w' ∧ (∀ k, S k → w.heap.size ≤ k ∧ k < w'.heap.size) ∧ A.R (baseCtx w' fun k => (B k ∨ w.heap.size ≤ k) ∧ k < w'.heap.size ∧ ¬ S k) b S
theorem NewS.mono {args : List D} {Q Q' : SepA → Prop} (h : NewS P f args Q) (hq : ∀ A, Q A → Q' A) : NewS P f args Q' :=
  ⟨h.1, fun w B args' h1 h2 => (h.2 w B args' h1 h2).mono fun _ _ ⟨b, A, S, q1, q2⟩ => ⟨b, A, S, hq _ q1, q2⟩⟩

theorem CallVC.news {g : Bool} {Q : SepA → Prop} (hf : NewS P f args Q) (hcut : args.all (cutOk 6 0) = true) (h : ∀ A S, Q A → K (.loc s.nx 0) ⟨s.F, (s.nx, .obj (.sep S A)) :: s.H, s.nx + 1, s.G⟩) : CallVC P g f args s K := by
  refine ⟨hf.1, fun E σ τ a w args' hs hr => ?_⟩
  have hr' : reps (baseCtx w (ctxOf E s.H s.nx σ τ w).ok) args args' := ⟨hr.1, fun j d u hd hu => (cut_rep 6 d _ u (all_at hcut hd) (hr.2 j d u hd hu)).mono ⟨fun _ _ _ h => h, fun _ h => h, fun _ _ _ h => absurd h.1 (Nat.not_lt_zero _), fun _ _ h => absurd h.1 (Nat.not_lt_zero _), fun _ _ _ h => absurd h.1 (Nat.not_lt_zero _)⟩⟩
  refine (hf.2 w _ args' (fun b hb => hb.2.1) hr').mono fun e w' hh => ?_
  obtain ⟨b, A, S, hq, rfl, hu, hS, hR⟩ := hh
  have howned : ∀ id k, owned ((s.nx, .obj (.sep S A)) :: s.H) (setN σ s.nx b) τ id k → (id = s.nx ∧ S k) ∨ (id ≠ s.nx ∧ owned s.H σ τ id k) := by
    intro id k ho
    by_cases hi : id = s.nx
    · subst hi
      rcases ho with ⟨_, _, h1, _⟩ | ⟨_, _, _, _, _, h1, _⟩ | ⟨o, h1, h2⟩
      · rw [lget_same] at h1; cases h1
      · rw [lget_same] at h1; cases h1
      · rw [lget_same] at h1
        injection h1 with h1; injection h1 with h1; subst h1
        exact .inl ⟨rfl, h2⟩
    · refine .inr ⟨hi, ?_⟩
      have e0 : setN σ s.nx b id = σ id := by simp [setN, hi]
      rcases ho with ⟨_, _, h1, h2⟩ | ⟨_, _, _, _, _, h1, h2⟩ | ⟨o, h1, h2⟩
      · rw [lget_ne _ _ hi] at h1; rw [e0] at h2; exact .inl ⟨_, _, h1, h2⟩
      · rw [lget_ne _ _ hi] at h1; exact .inr (.inl ⟨_, _, _, _, _, h1, h2⟩)
      · rw [lget_ne _ _ hi] at h1; rw [e0] at h2; exact .inr (.inr ⟨_, h1, h2⟩)
  have hle : (ctxOf E s.H s.nx σ τ w).Le (ctxOf E ((s.nx, .obj (.sep S A)) :: s.H) (s.nx + 1) (setN σ s.nx b) τ w') := by
    refine ⟨fun k o hk ho => (hu.block k hk.2.1).trans ho, fun k hk => ⟨hk.1, Nat.lt_of_lt_of_le hk.2.1 hu.size, fun id ho => ?_⟩, fun id off v hv => ?_, fun id v hv => ⟨Nat.lt_succ_of_lt hv.1, hv.2⟩, fun id off v hv => ⟨Nat.lt_succ_of_lt hv.1, hv.2⟩⟩
    · rcases howned id k ho with ⟨_, h2⟩ | ⟨_, h2⟩
      · have := (hS k h2).1
        have : k < w.heap.size := hk.2.1
        omega
      · exact hk.2.2 id h2
    · obtain ⟨h1, rfl⟩ := hv
      exact ⟨Nat.lt_succ_of_lt h1, by simp [setN, show id ≠ s.nx by omega]⟩
  have hle2 : (baseCtx w' fun k => ((ctxOf E s.H s.nx σ τ w).ok k ∨ w.heap.size ≤ k) ∧ k < w'.heap.size ∧ ¬ S k).Le (ctxOf E ((s.nx, .obj (.sep S A)) :: s.H) (s.nx + 1) (setN σ s.nx b) τ w').still := by
    refine ⟨fun _ _ _ h => h, fun k hk => ?_, fun _ _ _ h => h, fun _ _ h => h, fun _ _ _ h => h⟩
    obtain ⟨hk1, hk2, hk3⟩ := hk
    refine ⟨?_, hk2, fun id ho => ?_⟩
    · rcases hk1 with hk1 | hk1
      · exact hk1.1
      · exact .inr (.inr (Nat.le_trans hs.heap.kept.size hk1))
    · rcases howned id k ho with ⟨_, h2⟩ | ⟨_, h2⟩
      · exact hk3 h2
      · rcases hk1 with hk1 | hk1
        · exact hk1.2.2 id h2
        · have := owned_lt hs.heap h2; omega
  refine ⟨_, _, setN σ s.nx b, τ, _, h A S hq, rfl, ⟨⟨hs.heap.kept.below hu, hs.heap.few, fun id el l hl => ?_, fun id α el e enc L hl => ?_, fun p q k h1 h2 => ?_, fun id o hl => ?_, hs.heap.slices, fun id o hl => ?_⟩, hs.defers, hs.size, fun j d hd => (hs.slots j d hd).mono hle, hs.ghost_le (s' := ⟨s.F, (s.nx, .obj (.sep S A)) :: s.H, s.nx + 1, s.G⟩) rfl hle, Nat.le_succ_of_le hs.room⟩, .loc ⟨Nat.lt_succ_self _, by simp [setN]⟩, fun _ => hu.toBelow⟩
  · have hi : id ≠ s.nx := by rintro rfl; rw [lget_same] at hl; cases hl
    rw [lget_ne _ _ hi] at hl
    have e0 : setN σ s.nx b id = σ id := by simp [setN, hi]
    rw [e0]
    obtain ⟨h1, c, h2, h3, h4⟩ := hs.heap.cells id el l hl
    exact ⟨h1, c, (hu.block _ (Array.getElem?_eq_some_iff.1 h2).1).trans h2, h3, fun j d u hd hu => (h4 j d u hd hu).mono hle⟩
  · have hi : id ≠ s.nx := by rintro rfl; rw [lget_same] at hl; cases hl
    rw [lget_ne _ _ hi] at hl
    obtain ⟨h1, xs, h2, h3, h4⟩ := hs.heap.grow id α el e enc L hl
    exact ⟨h1, xs, own_below h2 hu.toBelow, h3, fun p x j d u hx hd hu => (h4 p x j d u hx hd hu).mono hle.still⟩
  · rcases howned p k h1 with ⟨h3, h4⟩ | ⟨h3, h4⟩ <;> rcases howned q k h2 with ⟨h5, h6⟩ | ⟨h5, h6⟩
    · rw [h3, h5]
    · have := (hS k h4).1; have := owned_lt hs.heap h6; omega
    · have := (hS k h6).1; have := owned_lt hs.heap h4; omega
    · exact hs.heap.apart p q k h4 h6
  · by_cases hi : id = s.nx
    · subst hi; exact Nat.lt_succ_self _
    · rw [lget_ne _ _ hi] at hl; exact Nat.lt_succ_of_lt (hs.heap.below id o hl)
  · by_cases hi : id = s.nx
    · subst hi
      rw [lget_same] at hl
      injection hl with hl; injection hl with hl; subst hl
      have e0 : setN σ s.nx b s.nx = b := by simp [setN]
      rw [e0]
      exact ⟨fun k hk => ⟨.inr (Nat.le_trans hs.heap.kept.size (hS k hk).1), (hS k hk).2⟩, SepA.mono A (C := baseCtx w' fun k => ((ctxOf E s.H s.nx σ τ w).ok k ∨ w.heap.size ≤ k) ∧ k < w'.heap.size ∧ ¬ S k) (C' := ctxOf E ((s.nx, .obj (.sep S A)) :: s.H) (s.nx + 1) (setN σ s.nx b) τ w') hR (fun _ _ _ h => h) hle2⟩
    · rw [lget_ne _ _ hi] at hl
      have e0 : setN σ s.nx b id = σ id := by simp [setN, hi]
      rw [e0]
      obtain ⟨h1, h2⟩ := hs.heap.obj id o hl
      exact ⟨fun k hk => ⟨(h1 k hk).1, Nat.lt_of_lt_of_le (h1 k hk).2 hu.size⟩, OA.at_le h2 (fun k hk => hu.block k (h1 k hk).2) hle.still⟩
end
end Go.Proofs.Ytfghccppoilfhaa.V
namespace Go.Proofs.Ytfghccppoilfhaa.V
open Go.RowKit

section
variable {P : Program} {tt : TT} {E : Env} {s : St} {σ : Nat → Nat} {τ : Nat → Value} {a : Act} {w : World}

theorem op_appendCap (htt : ttOk P tt) {o : Oper} {x y : Operand} {t el : TypeId} {sz by_ : Nat} {zz : List Value} {ti : TI} {k id m : Nat} {new : List (List D)} {β0 : Type} {enc0 : β0 → List D} {L0 : List β0} {β : Type} {enc : β → List D} {L : List β} (ho : o.op = .call { callee := .builtin .append, args := #[x, y], argTypes := #[t, t] }) (hx : evD s x = .cap id m m) (hid : lget s.H id = some (.grow β0 el k enc0 L0)) (hmL : m ≤ L0.length) (hL0 : 0 < L0.length) (ht : tfind tt t = some ⟨.slice el, sz, by_, zz⟩) (he : tfind tt el = some ti)
    (hk : ti.size = k) (hk0 : 0 < k) (hzl : ti.zero.length = k) (hy : srcRows s k (evD s y) = some new) (hyst : litStill (evD s y) = true) (hnew : 0 < new.length) (hL : L.map enc = (L0.map enc0).take m ++ new) (hones : ∀ y, onesD (enc y) = true)
    (hb : L.length ≤ 1099511627776) (hby : L.length * ti.bytes ≤ 140737488355328) {K : D → St → Prop} (h : K (.grow s.nx) ⟨s.F, (s.nx, .grow β el k enc L) :: s.H, s.nx + 1, s.G⟩) : OpVC P false o s K := by
  intro E σ τ a w hs next Q hn
  obtain ⟨de, i, z, k1, _, _, k4, _⟩ := view_spec (tfind_view htt ht)
  have := ud_slice k4; subst this
  obtain ⟨_, q, zv, _, q2, q3, _, q5, q6, q7⟩ := view_spec (tfind_view htt he)
  have hxr := evD_rep hs x
  have hyr := evD_rep hs y
  obtain ⟨LL, hLL⟩ : ∃ LL, LL = (L0.map enc0).take m := ⟨_, rfl⟩
  rw [← hLL] at hL
  have hLLl : LL.length = m := by rw [hLL, List.length_take, List.length_map]; omega
  have hlen : L.length = LL.length + new.length := by have := congrArg List.length hL; simpa using this
  -- the old cells
  obtain ⟨_, xs, ⟨hxl, hown0⟩, hlen0, hrep0⟩ := hs.heap.grow id _ _ _ _ _ hid
  obtain ⟨g0, cap0, cur0, hv1, _, hgg, hcap0, _, hcs0, htk0⟩ : ∃ g cap cur, τ id = .slice (some ⟨g, 0, none⟩) L0.length cap ∧ 0 ≤ g ∧ w.heap[g]? = some (.cells cur el (0, 0)) ∧ L0.length ≤ cap ∧ cap ≤ maxLen ∧ cur.size = cap * k ∧ cur.toList.take (L0.length * k) = xs := by
    rcases hown0 with ⟨_, h⟩ | ⟨g, cap, cur, h1, h2, h3, h4, h5, h6, h7⟩
    · omega
    · exact ⟨g, cap, cur, h1, h2, h3, h4, h5, h6, h7⟩
  have hv0 : a.eval x = .slice (some ⟨g0, 0, none⟩) LL.length LL.length := by
    rw [hx] at hxr
    generalize a.eval x = u at hxr
    cases hxr with
    | cap hg _ =>
      obtain ⟨_, hg⟩ := hg
      rw [hv1] at hg
      injection hg with e1 e2 e3
      subst e1
      rw [hLLl]
  have hmk : m * k ≤ L0.length * k := Nat.mul_le_mul_right k hmL
  obtain ⟨olds, holds⟩ : ∃ olds, olds = xs.take (m * k) := ⟨_, rfl⟩
  have hol : olds.length = LL.length * k := by rw [holds, List.length_take, hxl, hLLl]; omega
  have hLat : ∀ (i : Nat) l, LL[i]? = some l → ∃ y, L0[i]? = some y ∧ enc0 y = l ∧ i < m := by
    intro i l hl
    have hi : i < m := by have := (List.getElem?_eq_some_iff.1 hl).1; omega
    rw [hLL, List.getElem?_take_of_lt hi, List.getElem?_map] at hl
    cases hq : L0[i]? with
    | none => rw [hq] at hl; cases hl
    | some y => rw [hq] at hl; exact ⟨y, rfl, by simpa using hl, hi⟩
  have holen : ∀ (i : Nat) l, LL[i]? = some l → l.length = k := by
    intro i l hl
    obtain ⟨y, h1, rfl, _⟩ := hLat i l hl
    exact hlen0 i y h1
  have horep : ∀ (i : Nat) l (j : Nat) d u, LL[i]? = some l → l[j]? = some d → olds[i * k + j]? = some u → Rep (ctxOf E s.H s.nx σ τ w).still d u := by
    intro i l j d u hl hd hu
    obtain ⟨y, h1, rfl, hi⟩ := hLat i l hl
    have hlt := (List.getElem?_eq_some_iff.1 hu).1
    rw [hol, hLLl] at hlt
    rw [holds, List.getElem?_take_of_lt hlt] at hu
    exact hrep0 i y j d u h1 hd hu
  have hcells0 : cellsAt w g0 0 olds := by
    intro j u hu
    have hlt := (List.getElem?_eq_some_iff.1 hu).1
    rw [hol, hLLl] at hlt
    rw [holds, List.getElem?_take_of_lt hlt, ← htk0, List.getElem?_take_of_lt (by omega)] at hu
    have hu : cur0[j]? = some u := by simpa using hu
    rw [Nat.zero_add]
    unfold World.cell?
    simp [hgg, hu]
  obtain ⟨p, c, news, hu, hnl, hnlen, hnrep, hsrc⟩ := src_spec hs hk0 hy hyst hyr
  obtain ⟨b, of, rfl, hcells⟩ : ∃ b o, p = some ⟨b, o, none⟩ ∧ cellsAt w b o news := by
    rcases hsrc with h | h
    · subst h; simp at hnew
    · exact h
  have hget : ∀ (i : Nat) y, L[i]? = some y → (LL ++ new)[i]? = some (enc y) := by
    intro i y hy
    rw [← hL, List.getElem?_map, hy]; rfl
  have hel : ∀ (i : Nat) y, L[i]? = some y → (enc y).length = k := by
    intro i y hy
    have h1 := hget i y hy
    by_cases hi : i < LL.length
    · rw [List.getElem?_append_left hi] at h1; exact holen i _ h1
    · rw [List.getElem?_append_right (by omega)] at h1; exact hnlen _ _ h1
  have hrep : ∀ (i : Nat) y (j : Nat) d u, L[i]? = some y → (enc y)[j]? = some d → (olds ++ news)[i * k + j]? = some u → Rep (ctxOf E s.H s.nx σ τ w).still d u := by
    intro i y j d u hy hd hu
    have h1 := hget i y hy
    have hj : j < k := by have := (List.getElem?_eq_some_iff.1 hd).1; rw [hel i y hy] at this; exact this
    by_cases hi : i < LL.length
    · rw [List.getElem?_append_left hi] at h1
      have hb : i * k + k ≤ LL.length * k := by
        have := Nat.mul_le_mul_right k (show i + 1 ≤ LL.length from hi)
        rw [Nat.succ_mul] at this; exact this
      rw [List.getElem?_append_left (by rw [hol]; omega)] at hu
      exact horep i _ j d u h1 hd hu
    · rw [List.getElem?_append_right (by omega)] at h1
      have hb : i * k = LL.length * k + (i - LL.length) * k := by rw [← Nat.add_mul]; congr 1; omega
      rw [List.getElem?_append_right (by rw [hol]; omega), hol] at hu
      rw [show i * k + j - LL.length * k = (i - LL.length) * k + j by omega] at hu
      exact hnrep _ _ j d u h1 hd hu
  have h1c : ∀ u ∈ news, u.oneCell' = true := by
    intro u hu
    obtain ⟨m, hm⟩ := List.mem_iff_getElem?.1 hu
    have hkl : m < new.length * k := by have := (List.getElem?_eq_some_iff.1 hm).1; omega
    have hi : m / k < new.length := Nat.div_lt_of_lt_mul (by rw [Nat.mul_comm]; exact hkl)
    have hnl2 : new[m / k]? = some new[m / k] := List.getElem?_eq_getElem hi
    have hl2 := hnlen _ _ hnl2
    have hmem : new[m / k] ∈ L.map enc := by rw [hL]; exact List.mem_append_right _ (List.getElem_mem hi)
    obtain ⟨y, _, hy⟩ := List.mem_map.1 hmem
    have hj : m % k < k := Nat.mod_lt _ hk0
    have hsub : reps (ctxOf E s.H s.nx σ τ w).still new[m / k] ((news.drop (m / k * k)).take k) := by
      have hb : m / k * k + k ≤ new.length * k := by
        have := Nat.mul_le_mul_right k (show m / k + 1 ≤ new.length from hi)
        rw [Nat.succ_mul] at this; exact this
      refine ⟨by simp; omega, fun j d v hd hv => ?_⟩
      have hj2 : j < k := by have := (List.getElem?_eq_some_iff.1 hd).1; omega
      rw [List.getElem?_take_of_lt hj2, List.getElem?_drop] at hv
      exact hnrep _ _ j d v hnl2 hd hv
    have hsane : (ctxOf E s.H s.nx σ τ w).still.Sane := ⟨fun _ _ _ h => h.elim, fun _ _ h => h.elim, fun _ _ _ h => h.elim⟩
    refine ones_rep hsane (by rw [← hy]; exact hones y) hsub u ?_
    have hdm : m / k * k + m % k = m := Nat.div_add_mod' m k
    refine List.mem_of_getElem? (i := m % k) ?_
    rw [List.getElem?_take_of_lt hj, List.getElem?_drop, hdm]
    exact hm
  have hml : (maxLen : Nat) = 9223372036854775807 := by decide
  have hqs : q.size = k := by rw [q5, hk]
  have hzs : zv.cells.size = k := by rw [← hzl, ← q7]; simp
  have hsr : Src P q.size t (a.eval y) new.length news w := by
    rw [hu]
    exact Src.ofSlice w k1 _ _ c news (by rw [hnl, hqs]) (fun j u hj => by rw [addr_add]; exact hcells j u hj) h1c
  have hold := run_firstCells_some (P := P) w.drew q.size LL.length ⟨g0, 0, none⟩ LL.length LL.length olds (by rw [hol, hqs]) (fun j u hj => by rw [addr_add]; exact hcells0 j u hj)
  have hg : LL.length < LL.length + new.length := by omega
  have hrun := run_append_grow_src (P := P) w t t o.type el q zv k1 q2 q3 (some ⟨g0, 0, none⟩) LL.length LL.length olds hold (a.eval y) new.length news hsr hg (by omega) (growslice_fits hg (by rw [q6, ← hlen]; exact hby))
  rw [← hlen] at hrun
  have hge := grownCap_ge w L.length LL.length el
  have hmx := grownCap_le_maxLen w L.length LL.length el (by rw [hml]; omega)
  generalize grownCap w L.length LL.length el = cap at *
  generalize hobj : (olds ++ news).toArray ++ Builtin.zeroCells zv.cells (cap - L.length) = cur at hrun
  have hcs : cur.size = cap * k := by
    rw [← hobj, Array.size_append, List.size_toArray, List.length_append, hol, hnl, size_zeroCells, hzs, ← Nat.add_mul, ← hlen, ← Nat.add_mul]
    congr 1; omega
  have htk : cur.toList.take (L.length * k) = olds ++ news := by
    rw [← hobj, Array.toList_append, List.take_append_of_le_length (by rw [List.length_append, hol, hnl, ← Nat.add_mul, hlen]; exact Nat.le_refl _)]
    exact List.take_of_length_le (by rw [List.length_append, hol, hnl, ← Nat.add_mul, hlen]; exact Nat.le_refl _)
  have hown : (w.drew.alloc (.cells cur el)).ownsRow 0 el k (.slice (some ⟨w.heap.size, 0, none⟩) L.length cap) L.length (olds ++ news) := by
    refine ⟨by rw [List.length_append, hol, hnl, ← Nat.add_mul, hlen], .inr ⟨w.heap.size, cap, cur, rfl, Nat.zero_le _, heap_alloc_new w.drew _, hge, hmx, hcs, htk⟩⟩
  obtain ⟨F, H, nx, G⟩ := s
  obtain ⟨τ', r6, r7⟩ := grow_state (dst := .v (.slice none 0 0)) (u := .slice none 0 0) (el := el) (e := k) (old := []) (w' := w.drew.alloc (.cells cur el)) (drew_state hs) (by simp [ownRows]) .v (Nat.le_refl _) (World.grownBy_alloc w.drew _ _) (.inr (.inr rfl)) ⟨_, _, _, rfl⟩ (β := β) (enc := enc) (L := L) hown hel fun i y j d u h1 h2 h3 => (hrep i y j d u h1 h2 h3).mono ⟨fun _ _ _ h => h, fun _ h => h, fun _ _ _ h => h, fun _ _ h => h, fun _ _ _ h => h⟩
  have hexec : (execOp a.eval o).run P w = .ok (.value (.slice (some ⟨w.heap.size, 0, none⟩) L.length cap)) (w.drew.alloc (.cells cur el)) := by
    simp only [execOp, ho, resolve, invoke, builtin]
    simp [hv0, hrun]
  unfold Oper.wp
  rw [hexec]
  exact hn _ _ _ _ _ _ h r6 (.grow ⟨Nat.lt_succ_self _, r7.symm⟩) (fun h => by cases h)
end
end Go.Proofs.Ytfghccppoilfhaa.V
