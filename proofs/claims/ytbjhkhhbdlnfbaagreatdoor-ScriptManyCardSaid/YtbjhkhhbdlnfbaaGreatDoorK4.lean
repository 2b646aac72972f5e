/-
  Numbers in digits, by value: the program's and the document's. Conditions: numbers below 256.
  The text of an address, by value: the program's and the document's. Conditions: an address is a u32; strings.Join answers the row joined.
  Clusters of one's own objects as one thing: what holds of a family of objects, in one predicate; contracts with a cluster. Conditions: the table of types says what the program's says; functions are entered; plans are ones.
  Exact pointers and rows: blocks of one's own that are known by their number; laws of what is done with them. Condition: the table of types says what the program's says.
  append to a row that a literal made: always a new row. Condition: the table of types says what the program's says.
-/
import Derived.Test.YtbjhkhhbdlnfbaaGreatDoorTtK
import Derived.Test.YtbjhkhhbdlnfbaaGreatDoorK2
import Derived.Test.YtbjhkhhbdlnfbaaGreatDoorK3
namespace Go.Proofs.YtbjhkhhbdlnfbaaGreatDoor.V
open Go.RowKit
attribute [local irreducible] Fn FnN OpVC

abbrev u32D (n : Int) : D := .v (.int .u32 n)
abbrev u8D (n : Int) : D := .v (.int .u8 n)

theorem u32_small {n : Int} (h : 0 ≤ n ∧ n < 4294967296) : IntKind.u32.wrap n = n := by rw [u32_wrap]; omega
theorem u8_wrap' (n : Int) : IntKind.u8.wrap n = n % 256 := by rw [IntKind.wrap]; rfl
theorem u8_small {n : Int} (h : 0 ≤ n ∧ n < 256) : IntKind.u8.wrap n = n := by rw [u8_wrap']; omega

theorem str_le {a b : List Nat} (h : a.length + b.length ≤ 1000000000) : (((strB a).size + (strB b).size : Nat) : Int) ≤ 9223372036854775807 := by
  rw [strB_size, strB_size]; omega

end Go.Proofs.YtbjhkhhbdlnfbaaGreatDoor.V
namespace Go.Proofs.YtbjhkhhbdlnfbaaGreatDoor.V
open Go.RowKit
attribute [local irreducible] Fn FnN OpVC

theorem bv32_or (x y : Nat) (hx : x < 4294967296) (hy : y < 4294967296) : (BitVec.ofInt 32 (x : Int) ||| BitVec.ofInt 32 (y : Int)).toNat = x ||| y := by
  rw [BitVec.toNat_or, BitVec.toNat_ofInt, BitVec.toNat_ofInt]
  congr 1 <;> omega
theorem u32_put (a n : Nat) (ha : a < 16777216) (hn : n < 256) : IntKind.u32.wrap (((BitVec.ofInt IntKind.u32.bits (IntKind.u32.wrap ((a : Int) * 2 ^ (min (8 : Int).toNat IntKind.u32.bits))) ||| BitVec.ofInt IntKind.u32.bits (n : Int)).toNat : Nat) : Int) = ((a * 256 + n : Nat) : Int) := by
  have e : IntKind.u32.wrap ((a : Int) * 2 ^ (min (8 : Int).toNat IntKind.u32.bits)) = ((a * 256 : Nat) : Int) := by
    show IntKind.u32.wrap ((a : Int) * 256) = _
    rw [u32_small (by omega)]; omega
  rw [e]
  have := bv32_or (a * 256) n (by omega) (by omega)
  rw [show (BitVec.ofInt IntKind.u32.bits ((a * 256 : Nat) : Int) ||| BitVec.ofInt IntKind.u32.bits (n : Int)).toNat = a * 256 ||| n from this]
  rw [show a * 256 ||| n = a * 256 + n by
    have := Nat.two_pow_add_eq_or_of_lt (i := 8) (b := n) hn a
    rw [Nat.mul_comm] at this; exact this.symm]
  exact u32_small (by omega)
theorem shr_at (x k : Nat) : (x : Int).fdiv (2 ^ k) = ((x / 2 ^ k : Nat) : Int) := by
  rw [Int.fdiv_eq_ediv_of_nonneg _ (Int.le_of_lt (Int.pow_pos (by decide)))]
  simp

abbrev strE : List Nat → List D := fun l => [strD l]
abbrev rowsT (L : List (List Nat)) : D := .rows (List Nat) 1 strE L
def joinN (sep : List Nat) (L : List (List Nat)) : List Nat := sep.intercalate L
def JoinC : Prop := ∀ (L : List (List Nat)) (sep : List Nat), (∀ x, x ∈ L → Byt x) → Byt sep → L.length ≤ 1000 → (joinN sep L).length ≤ 1000000 → FnN Tryz.prog 34 [rowsT L, strD sep] fun d => d = strD (joinN sep L)

end Go.Proofs.YtbjhkhhbdlnfbaaGreatDoor.V
namespace Go.Proofs.YtbjhkhhbdlnfbaaGreatDoor.V
open Go.RowKit

/-! ### A part of the objects -/
section
variable {P : Program} {tt : TT} {pl : Plans} {s : St} {K : D → St → Prop} {f : FuncId} {args : List D} {E : Env} {H : List (Nat × LO)} {nx : Nat} {σ : Nat → Nat} {τ : Nat → Value} {w : World}

/-! ### Clusters -/
def apartB (H : List (Nat × LO)) : List (Nat × LO) → Bool
  | [] => true
  | (i, _) :: r => match lget H i with
    | none => apartB H r
    | some _ => false
/-! ### New clusters -/
def NewS (P : Program) (f : FuncId) (args : List D) (Q : SepA → Prop) : Prop :=
  hasBody P f ∧ ∀ (w : World) (B : Nat → Prop) (args' : List Value), (∀ b, B b → b < w.heap.size) → reps (baseCtx w B) args args' →
    Calls P f args'.toArray w fun e w' => ∃ b A S, Q A ∧ e = .returned (.pointer (some ⟨b, 0, none⟩)) ∧ Under w.heap.size w w' ∧ (∀ k, S k → w.heap.size ≤ k ∧ k < w'.heap.size) ∧ A.R (baseCtx w' fun k => (B k ∨ w.heap.size ≤ k) ∧ k < w'.heap.size ∧ ¬ S k) b S
theorem NewS.mono {args : List D} {Q Q' : SepA → Prop} (h : NewS P f args Q) (hq : ∀ A, Q A → Q' A) : NewS P f args Q' :=
  ⟨h.1, fun w B args' h1 h2 => (h.2 w B args' h1 h2).mono fun _ _ ⟨b, A, S, q1, q2⟩ => ⟨b, A, S, hq _ q1, q2⟩⟩

theorem CallVC.news {g : Bool} {Q : SepA → Prop} (hf : NewS P f args Q) (hcut : args.all (cutOk 6 0) = true) (h : ∀ A S, Q A → K (.loc s.nx 0) ⟨s.F, (s.nx, .obj (.sep S A)) :: s.H, s.nx + 1, s.G⟩) : CallVC P g f args s K := by
  refine ⟨hf.1, fun E σ τ a w args' hs hr => ?_⟩
  have hr' : reps (baseCtx w (ctxOf E s.H s.nx σ τ w).ok) args args' := ⟨hr.1, fun j d u hd hu => (cut_rep 6 d _ u (all_at hcut hd) (hr.2 j d u hd hu)).mono ⟨fun _ _ _ h => h, fun _ h => h, fun _ _ _ h => absurd h.1 (Nat.not_lt_zero _), fun _ _ h => absurd h.1 (Nat.not_lt_zero _), fun _ _ _ h => absurd h.1 (Nat.not_lt_zero _)⟩⟩
  refine (hf.2 w _ args' (fun b hb => hb.2.1) hr').mono fun e w' hh => ?_
  obtain ⟨b, A, S, hq, rfl, hu, hS, hR⟩ := hh
  have howned : ∀ id k, owned ((s.nx, .obj (.sep S A)) :: s.H) (setN σ s.nx b) τ id k → (id = s.nx ∧ S k) ∨ (id ≠ s.nx ∧ owned s.H σ τ id k) := by
    intro id k ho
    by_cases hi : id = s.nx
    · subst hi
      rcases ho with ⟨_, _, h1, _⟩ | ⟨_, _, _, _, _, h1, _⟩ | ⟨o, h1, h2⟩
      · rw [lget_same] at h1; cases h1
      · rw [lget_same] at h1; cases h1
      · rw [lget_same] at h1
        injection h1 with h1; injection h1 with h1; subst h1
        exact .inl ⟨rfl, h2⟩
    · refine .inr ⟨hi, ?_⟩
      have e0 : setN σ s.nx b id = σ id := by simp [setN, hi]
      rcases ho with ⟨_, _, h1, h2⟩ | ⟨_, _, _, _, _, h1, h2⟩ | ⟨o, h1, h2⟩
      · rw [lget_ne _ _ hi] at h1; rw [e0] at h2; exact .inl ⟨_, _, h1, h2⟩
      · rw [lget_ne _ _ hi] at h1; exact .inr (.inl ⟨_, _, _, _, _, h1, h2⟩)
      · rw [lget_ne _ _ hi] at h1; rw [e0] at h2; exact .inr (.inr ⟨_, h1, h2⟩)
  have hle : (ctxOf E s.H s.nx σ τ w).Le (ctxOf E ((s.nx, .obj (.sep S A)) :: s.H) (s.nx + 1) (setN σ s.nx b) τ w') := by
    refine ⟨fun k o hk ho => (hu.block k hk.2.1).trans ho, fun k hk => ⟨hk.1, Nat.lt_of_lt_of_le hk.2.1 hu.size, fun id ho => ?_⟩, fun id off v hv => ?_, fun id v hv => ⟨Nat.lt_succ_of_lt hv.1, hv.2⟩, fun id off v hv => ⟨Nat.lt_succ_of_lt hv.1, hv.2⟩⟩
    · rcases howned id k ho with ⟨_, h2⟩ | ⟨_, h2⟩
      · have := (hS k h2).1
        have : k < w.heap.size := hk.2.1
        omega
      · exact hk.2.2 id h2
    · obtain ⟨h1, rfl⟩ := hv
      exact ⟨Nat.lt_succ_of_lt h1, by simp [setN, show id ≠ s.nx by omega]⟩
  have hle2 : (baseCtx w' fun k => ((ctxOf E s.H s.nx σ τ w).ok k ∨ w.heap.size ≤ k) ∧ k < w'.heap.size ∧ ¬ S k).Le (ctxOf E ((s.nx, .obj (.sep S A)) :: s.H) (s.nx + 1) (setN σ s.nx b) τ w').still := by
    refine ⟨fun _ _ _ h => h, fun k hk => ?_, fun _ _ _ h => h, fun _ _ h => h, fun _ _ _ h => h⟩
    obtain ⟨hk1, hk2, hk3⟩ := hk
    refine ⟨?_, hk2, fun id ho => ?_⟩
    · rcases hk1 with hk1 | hk1
      · exact hk1.1
      · exact .inr (.inr (Nat.le_trans hs.heap.kept.size hk1))
    · rcases howned id k ho with ⟨_, h2⟩ | ⟨_, h2⟩
      · exact hk3 h2
      · rcases hk1 with hk1 | hk1
        · exact hk1.2.2 id h2
        · have := owned_lt hs.heap h2; omega
  refine ⟨_, _, setN σ s.nx b, τ, _, h A S hq, rfl, ⟨⟨hs.heap.kept.below hu, hs.heap.few, fun id el l hl => ?_, fun id α el e enc L hl => ?_, fun p q k h1 h2 => ?_, fun id o hl => ?_, hs.heap.slices, fun id o hl => ?_⟩, hs.defers, hs.size, fun j d hd => (hs.slots j d hd).mono hle, hs.ghost_le (s' := ⟨s.F, (s.nx, .obj (.sep S A)) :: s.H, s.nx + 1, s.G⟩) rfl hle, Nat.le_succ_of_le hs.room⟩, .loc ⟨Nat.lt_succ_self _, by simp [setN]⟩, fun _ => hu.toBelow⟩
  · have hi : id ≠ s.nx := by rintro rfl; rw [lget_same] at hl; cases hl
    rw [lget_ne _ _ hi] at hl
    have e0 : setN σ s.nx b id = σ id := by simp [setN, hi]
    rw [e0]
    obtain ⟨h1, c, h2, h3, h4⟩ := hs.heap.cells id el l hl
    exact ⟨h1, c, (hu.block _ (Array.getElem?_eq_some_iff.1 h2).1).trans h2, h3, fun j d u hd hu => (h4 j d u hd hu).mono hle⟩
  · have hi : id ≠ s.nx := by rintro rfl; rw [lget_same] at hl; cases hl
    rw [lget_ne _ _ hi] at hl
    obtain ⟨h1, xs, h2, h3, h4⟩ := hs.heap.grow id α el e enc L hl
    exact ⟨h1, xs, own_below h2 hu.toBelow, h3, fun p x j d u hx hd hu => (h4 p x j d u hx hd hu).mono hle.still⟩
  · rcases howned p k h1 with ⟨h3, h4⟩ | ⟨h3, h4⟩ <;> rcases howned q k h2 with ⟨h5, h6⟩ | ⟨h5, h6⟩
    · rw [h3, h5]
    · have := (hS k h4).1; have := owned_lt hs.heap h6; omega
    · have := (hS k h6).1; have := owned_lt hs.heap h4; omega
    · exact hs.heap.apart p q k h4 h6
  · by_cases hi : id = s.nx
    · subst hi; exact Nat.lt_succ_self _
    · rw [lget_ne _ _ hi] at hl; exact Nat.lt_succ_of_lt (hs.heap.below id o hl)
  · by_cases hi : id = s.nx
    · subst hi
      rw [lget_same] at hl
      injection hl with hl; injection hl with hl; subst hl
      have e0 : setN σ s.nx b s.nx = b := by simp [setN]
      rw [e0]
      exact ⟨fun k hk => ⟨.inr (Nat.le_trans hs.heap.kept.size (hS k hk).1), (hS k hk).2⟩, SepA.mono A (C := baseCtx w' fun k => ((ctxOf E s.H s.nx σ τ w).ok k ∨ w.heap.size ≤ k) ∧ k < w'.heap.size ∧ ¬ S k) (C' := ctxOf E ((s.nx, .obj (.sep S A)) :: s.H) (s.nx + 1) (setN σ s.nx b) τ w') hR (fun _ _ _ h => h) hle2⟩
    · rw [lget_ne _ _ hi] at hl
      have e0 : setN σ s.nx b id = σ id := by simp [setN, hi]
      rw [e0]
      obtain ⟨h1, h2⟩ := hs.heap.obj id o hl
      exact ⟨fun k hk => ⟨(h1 k hk).1, Nat.lt_of_lt_of_le (h1 k hk).2 hu.size⟩, OA.at_le h2 (fun k hk => hu.block k (h1 k hk).2) hle.still⟩
end
end Go.Proofs.YtbjhkhhbdlnfbaaGreatDoor.V
namespace Go.Proofs.YtbjhkhhbdlnfbaaGreatDoor.V
open Go.RowKit

def celO (el : TypeId) (cur : List Value) : Obj := .cells cur.toArray el (0, 0)

section
variable {P : Program} {tt : TT} {E : Env} {s : St} {σ : Nat → Nat} {τ : Nat → Value} {a : Act} {w : World}

theorem setCell_block {w : World} {g o : Nat} {el : TypeId} {cur : List Value} {v : Value} (h : w.heap[g]? = some (celO el cur)) : w.setCell ⟨g, o, none⟩ v = { w with heap := w.heap.setIfInBounds g (celO el (cur.set o v)) } := by
  have hlt : g < w.heap.size := (Array.getElem?_eq_some_iff.1 h).1
  have hg : w.heap[g] = celO el cur := by simpa [Array.getElem?_eq_getElem hlt] using h
  unfold World.setCell
  congr 1
  apply Array.ext_getElem?
  intro i
  rw [Array.getElem?_modify, Array.getElem?_setIfInBounds]
  by_cases hi : g = i
  · subst hi
    simp only [if_true, h, Option.map_some, hlt, celO, Option.isSome_none, Bool.false_eq_true, if_false]
    congr 2
    apply Array.ext'
    simp
  · simp only [hi, if_false]

end
end Go.Proofs.YtbjhkhhbdlnfbaaGreatDoor.V
namespace Go.Proofs.YtbjhkhhbdlnfbaaGreatDoor.V
open Go.RowKit

section
variable {P : Program} {tt : TT} {E : Env} {s : St} {σ : Nat → Nat} {τ : Nat → Value} {a : Act} {w : World}

theorem op_appendLit (htt : ttOk P tt) {o : Oper} {x y : Operand} {t el : TypeId} {sz by_ : Nat} {zz : List Value} {ti : TI} {k : Nat} {LL new : List (List D)} {β : Type} {enc : β → List D} {L : List β} (ho : o.op = .call { callee := .builtin .append, args := #[x, y], argTypes := #[t, t] }) (hx : evD s x = .lit k LL) (ht : tfind tt t = some ⟨.slice el, sz, by_, zz⟩) (he : tfind tt el = some ti)
    (hk : ti.size = k) (hk0 : 0 < k) (hzl : ti.zero.length = k) (hnil : LL ≠ []) (hst : litStill (.lit k LL) = true) (hy : srcRows s k (evD s y) = some new) (hyst : litStill (evD s y) = true) (hnew : 0 < new.length) (hL : L.map enc = LL ++ new) (hones : ∀ y, onesD (enc y) = true)
    (hb : L.length ≤ 1099511627776) (hby : L.length * ti.bytes ≤ 140737488355328) {K : D → St → Prop} (h : K (.grow s.nx) ⟨s.F, (s.nx, .grow β el k enc L) :: s.H, s.nx + 1, s.G⟩) : OpVC P false o s K := by
  intro E σ τ a w hs next Q hn
  obtain ⟨de, i, z, k1, _, _, k4, _⟩ := view_spec (tfind_view htt ht)
  have := ud_slice k4; subst this
  obtain ⟨_, q, zv, _, q2, q3, _, q5, q6, q7⟩ := view_spec (tfind_view htt he)
  have hxr := evD_rep hs x
  have hyr := evD_rep hs y
  have hlen : L.length = LL.length + new.length := by have := congrArg List.length hL; simpa using this
  -- the old cells
  have hsx : srcRows s k (evD s x) = some LL := by rw [hx]; show (match Nat.beq k k with | true => some LL | false => none) = _; rw [Nat.beq_refl]
  obtain ⟨p0, c0, olds, hv0, hol, holen, horep, hosrc⟩ := src_spec hs hk0 hsx (by rw [hx]; exact hst) hxr
  have hc0 : c0 = LL.length := by
    rw [hx] at hxr
    generalize a.eval x = u at hxr hv0
    cases hxr with
    | lit b o g hc hp hl hcell hrep => injection hv0 with _ _ e3; subst e3; exact hc.symm
  subst hc0
  obtain ⟨b0, o0, hp0, hcells0⟩ : ∃ b o, p0 = some ⟨b, o, none⟩ ∧ cellsAt w b o olds := by
    rcases hosrc with h | h
    · exact absurd h hnil
    · exact h
  subst hp0
  obtain ⟨p, c, news, hu, hnl, hnlen, hnrep, hsrc⟩ := src_spec hs hk0 hy hyst hyr
  obtain ⟨b, of, rfl, hcells⟩ : ∃ b o, p = some ⟨b, o, none⟩ ∧ cellsAt w b o news := by
    rcases hsrc with h | h
    · subst h; simp at hnew
    · exact h
  have hget : ∀ (i : Nat) y, L[i]? = some y → (LL ++ new)[i]? = some (enc y) := by
    intro i y hy
    rw [← hL, List.getElem?_map, hy]; rfl
  have hel : ∀ (i : Nat) y, L[i]? = some y → (enc y).length = k := by
    intro i y hy
    have h1 := hget i y hy
    by_cases hi : i < LL.length
    · rw [List.getElem?_append_left hi] at h1; exact holen i _ h1
    · rw [List.getElem?_append_right (by omega)] at h1; exact hnlen _ _ h1
  have hrep : ∀ (i : Nat) y (j : Nat) d u, L[i]? = some y → (enc y)[j]? = some d → (olds ++ news)[i * k + j]? = some u → Rep (ctxOf E s.H s.nx σ τ w).still d u := by
    intro i y j d u hy hd hu
    have h1 := hget i y hy
    have hj : j < k := by have := (List.getElem?_eq_some_iff.1 hd).1; rw [hel i y hy] at this; exact this
    by_cases hi : i < LL.length
    · rw [List.getElem?_append_left hi] at h1
      have hb : i * k + k ≤ LL.length * k := by
        have := Nat.mul_le_mul_right k (show i + 1 ≤ LL.length from hi)
        rw [Nat.succ_mul] at this; exact this
      rw [List.getElem?_append_left (by rw [hol]; omega)] at hu
      exact horep i _ j d u h1 hd hu
    · rw [List.getElem?_append_right (by omega)] at h1
      have hb : i * k = LL.length * k + (i - LL.length) * k := by rw [← Nat.add_mul]; congr 1; omega
      rw [List.getElem?_append_right (by rw [hol]; omega), hol] at hu
      rw [show i * k + j - LL.length * k = (i - LL.length) * k + j by omega] at hu
      exact hnrep _ _ j d u h1 hd hu
  have h1c : ∀ u ∈ news, u.oneCell' = true := by
    intro u hu
    obtain ⟨m, hm⟩ := List.mem_iff_getElem?.1 hu
    have hkl : m < new.length * k := by have := (List.getElem?_eq_some_iff.1 hm).1; omega
    have hi : m / k < new.length := Nat.div_lt_of_lt_mul (by rw [Nat.mul_comm]; exact hkl)
    have hnl2 : new[m / k]? = some new[m / k] := List.getElem?_eq_getElem hi
    have hl2 := hnlen _ _ hnl2
    have hmem : new[m / k] ∈ L.map enc := by rw [hL]; exact List.mem_append_right _ (List.getElem_mem hi)
    obtain ⟨y, _, hy⟩ := List.mem_map.1 hmem
    have hj : m % k < k := Nat.mod_lt _ hk0
    have hsub : reps (ctxOf E s.H s.nx σ τ w).still new[m / k] ((news.drop (m / k * k)).take k) := by
      have hb : m / k * k + k ≤ new.length * k := by
        have := Nat.mul_le_mul_right k (show m / k + 1 ≤ new.length from hi)
        rw [Nat.succ_mul] at this; exact this
      refine ⟨by simp; omega, fun j d v hd hv => ?_⟩
      have hj2 : j < k := by have := (List.getElem?_eq_some_iff.1 hd).1; omega
      rw [List.getElem?_take_of_lt hj2, List.getElem?_drop] at hv
      exact hnrep _ _ j d v hnl2 hd hv
    have hsane : (ctxOf E s.H s.nx σ τ w).still.Sane := ⟨fun _ _ _ h => h.elim, fun _ _ h => h.elim, fun _ _ _ h => h.elim⟩
    refine ones_rep hsane (by rw [← hy]; exact hones y) hsub u ?_
    have hdm : m / k * k + m % k = m := Nat.div_add_mod' m k
    refine List.mem_of_getElem? (i := m % k) ?_
    rw [List.getElem?_take_of_lt hj, List.getElem?_drop, hdm]
    exact hm
  have hml : (maxLen : Nat) = 9223372036854775807 := by decide
  have hqs : q.size = k := by rw [q5, hk]
  have hzs : zv.cells.size = k := by rw [← hzl, ← q7]; simp
  have hsr : Src P q.size t (a.eval y) new.length news w := by
    rw [hu]
    exact Src.ofSlice w k1 _ _ c news (by rw [hnl, hqs]) (fun j u hj => by rw [addr_add]; exact hcells j u hj) h1c
  have hold := run_firstCells_some (P := P) w.drew q.size LL.length ⟨b0, o0, none⟩ LL.length LL.length olds (by rw [hol, hqs]) (fun j u hj => by rw [addr_add]; exact hcells0 j u hj)
  have hg : LL.length < LL.length + new.length := by omega
  have hrun := run_append_grow_src (P := P) w t t o.type el q zv k1 q2 q3 (some ⟨b0, o0, none⟩) LL.length LL.length olds hold (a.eval y) new.length news hsr hg (by omega) (growslice_fits hg (by rw [q6, ← hlen]; exact hby))
  rw [← hlen] at hrun
  have hge := grownCap_ge w L.length LL.length el
  have hmx := grownCap_le_maxLen w L.length LL.length el (by rw [hml]; omega)
  generalize grownCap w L.length LL.length el = cap at *
  generalize hobj : (olds ++ news).toArray ++ Builtin.zeroCells zv.cells (cap - L.length) = cur at hrun
  have hcs : cur.size = cap * k := by
    rw [← hobj, Array.size_append, List.size_toArray, List.length_append, hol, hnl, size_zeroCells, hzs, ← Nat.add_mul, ← hlen, ← Nat.add_mul]
    congr 1; omega
  have htk : cur.toList.take (L.length * k) = olds ++ news := by
    rw [← hobj, Array.toList_append, List.take_append_of_le_length (by rw [List.length_append, hol, hnl, ← Nat.add_mul, hlen]; exact Nat.le_refl _)]
    exact List.take_of_length_le (by rw [List.length_append, hol, hnl, ← Nat.add_mul, hlen]; exact Nat.le_refl _)
  have hown : (w.drew.alloc (.cells cur el)).ownsRow 0 el k (.slice (some ⟨w.heap.size, 0, none⟩) L.length cap) L.length (olds ++ news) := by
    refine ⟨by rw [List.length_append, hol, hnl, ← Nat.add_mul, hlen], .inr ⟨w.heap.size, cap, cur, rfl, Nat.zero_le _, heap_alloc_new w.drew _, hge, hmx, hcs, htk⟩⟩
  obtain ⟨F, H, nx, G⟩ := s
  obtain ⟨τ', r6, r7⟩ := grow_state (dst := .v (.slice none 0 0)) (u := .slice none 0 0) (el := el) (e := k) (old := []) (w' := w.drew.alloc (.cells cur el)) (drew_state hs) (by simp [ownRows]) .v (Nat.le_refl _) (World.grownBy_alloc w.drew _ _) (.inr (.inr rfl)) ⟨_, _, _, rfl⟩ (β := β) (enc := enc) (L := L) hown hel fun i y j d u h1 h2 h3 => (hrep i y j d u h1 h2 h3).mono ⟨fun _ _ _ h => h, fun _ h => h, fun _ _ _ h => h, fun _ _ h => h, fun _ _ _ h => h⟩
  have hexec : (execOp a.eval o).run P w = .ok (.value (.slice (some ⟨w.heap.size, 0, none⟩) L.length cap)) (w.drew.alloc (.cells cur el)) := by
    simp only [execOp, ho, resolve, invoke, builtin]
    simp [hv0, hrun]
  unfold Oper.wp
  rw [hexec]
  exact hn _ _ _ _ _ _ h r6 (.grow ⟨Nat.lt_succ_self _, r7.symm⟩) (fun h => by cases h)
end
end Go.Proofs.YtbjhkhhbdlnfbaaGreatDoor.V
