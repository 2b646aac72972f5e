/-
  Calls whose answer lies in memory of their own. Conditions: the table of types says what the program's says; functions are entered; plans are ones.
  The table of types of this seat, and what the program says of itself. Printed by a program (dev/tt.sh). No condition.
  Contracts with an object of one's own that is turned: its cells before and behind. Conditions: the table of types says what the program's says; functions are entered; plans are ones.
  Contracts that only look: nothing that was there turns, the answer lies in new memory. Conditions: the table of types says what the program's says; functions are entered; plans are ones.
  Contracts with an object, and ones that only look, for this seat. No condition.
  Words for numbers, and what stands first in a row. No condition.
  Maps of one's own, whose keys and values are numbers: made, looked up, written, thinned. Conditions: the type's keys and values are numbers of 64 bits.
  A call gone into, told behind it by other numbers: places below a number stay, all others may be named anew. Conditions: the caller's slots name places below that number alone.
  Contracts with a row of one's own that is turned, and handed back: what it holds before and behind. Conditions: the table of types says what the program's says; functions are entered; plans are ones.
  slices.SortFunc on a row of one's own, by the shelf's contract. Conditions: the comparison is a strict weak order; what it compares bears no place.
  slices.SortFunc at alarms, and at entries, laid on the shelf's contract, in plain words (written by the kit's lay-plain.mjs out of wheel/Slx). No condition.
-/
import Derived.Test.YtcbpdjikdohegaaGreatVm
import Derived.Test.YtcbpdjikdohegaaGreatProg
import Derived.IntWalk
import Derived.MapKept
import Derived.Shelf.SlSortCmp.WholeK
import Derived.Shelf.SlGeneric
import Derived.Shelf.SlLaysF0
namespace Go.Proofs.YtcbpdjikdohegaaGreat.V
open Go.RowKit

def geOk : Nat → Nat → D → Bool
  | 0, _, _ => false
  | _ + 1, _, .v _ => true
  | _ + 1, _, .rows _ _ _ _ => true
  | _ + 1, _, .emp => true
  | _ + 1, _, .junk => true
  | _ + 1, n, .loc id _ => Nat.ble n id
  | _ + 1, n, .grow id => Nat.ble n id
  | _ + 1, n, .op id _ _ _ => Nat.ble n id
  | _ + 1, n, .win id _ _ _ => Nat.ble n id
  | _ + 1, n, .cut id _ => Nat.ble n id
  | k + 1, n, .agg l => l.all (geOk k n)
  | k + 1, n, .tup l => l.all (geOk k n)
  | k + 1, n, .fp l => l.all (geOk k n)
  | k + 1, n, .lit _ L => L.all fun l => l.all (geOk k n)
  | k + 1, n, .fn _ a b => a.all (geOk k n) && b.all (geOk k n)
  | k + 1, n, .iface _ d => geOk k n d
  | _ + 1, n, .mapr id => Nat.ble n id
  | _ + 1, _, .sp _ => true

def Ctx.ge (C : Ctx) (n : Nat) : Ctx := ⟨C.w, C.ok, fun id off v => n ≤ id ∧ C.loc id off v, fun id v => n ≤ id ∧ C.grow id v, fun id off v => n ≤ id ∧ C.op id off v⟩

theorem ge_rep {n : Nat} : ∀ (k : Nat) (d : D) (C : Ctx) (v : Value), geOk k n d = true → Rep C d v → Rep (C.ge n) d v := by
  intro k
  induction k with
  | zero => intro d C v h; simp [geOk] at h
  | succ k ih =>
    intro d C v h hr
    cases hr with
    | v => exact .v
    | agg hs hh => exact .agg hs fun j d u a b => ih d C u (all_at (by simpa [geOk] using h) a) (hh j d u a b)
    | tup hs hh => exact .tup hs fun j d u a b => ih d C u (all_at (by simpa [geOk] using h) a) (hh j d u a b)
    | rows b o g hc hp hl hcell hrep => exact .rows b o g hc hp hl hcell hrep
    | lit b o g hc hp hl hcell hrep =>
      simp only [geOk, List.all_eq_true] at h
      exact .lit b o g hc hp hl hcell fun i x j d hx hd => ih d C _ (h x (List.mem_of_getElem? hx) d (List.mem_of_getElem? hd)) (hrep i x j d hx hd)
    | emp => exact .emp
    | fp g hk hcell hrep => exact .fp g hk hcell fun j d hd => ih d C _ (all_at (by simpa [geOk] using h) hd) (hrep j d hd)
    | loc hh => exact .loc ⟨Nat.le_of_ble_eq_true h, hh⟩
    | grow hh => exact .grow ⟨Nat.le_of_ble_eq_true h, hh⟩
    | op hh => exact .op ⟨Nat.le_of_ble_eq_true h, hh⟩
    | win hh hc => exact .win (fun hn => ⟨Nat.le_of_ble_eq_true h, hh hn⟩) hc
    | cut hh hn => exact .cut ⟨Nat.le_of_ble_eq_true h, hh⟩ hn
    | fn hs ht hh hh' =>
      simp only [geOk, List.all_eq_true, Bool.and_eq_true] at h
      exact .fn hs ht (fun j d u a b => ih d C u (h.1 d (List.mem_of_getElem? a)) (hh j d u a b)) fun j d u a b => ih d C u (h.2 d (List.mem_of_getElem? a)) (hh' j d u a b)
    | iface hh => exact .iface (ih _ C _ h hh)
    | mapr hh => exact .mapr ⟨Nat.le_of_ble_eq_true h, hh⟩
    | sp S hA hS => exact .sp S hA hS
    | junk => exact .junk

def loGe (n : Nat) : LO → Bool
  | .cells _ l => l.all (geOk 6 n)
  | .grow _ _ _ _ _ => true
  | .obj _ => true
  | .dead => true
def idsGe (n : Nat) : List (Nat × LO) → Bool
  | [] => true
  | (i, o) :: r => Nat.ble n i && loGe n o && idsGe n r
def freshOk (n : Nat) (H : List (Nat × LO)) (d : D) : Bool := idsGe n H && geOk 6 n d
theorem idsGe_get {n : Nat} : ∀ {H : List (Nat × LO)}, idsGe n H = true → ∀ id o, lget H id = some o → n ≤ id ∧ loGe n o = true
  | [], _, _, _, h => by cases h
  | (i, x) :: r, hh, id, o, h => by
    simp only [idsGe, Bool.and_eq_true] at hh
    by_cases hi : id = i
    · subst hi
      rw [lget_same] at h
      injection h with h; subst h
      exact ⟨Nat.le_of_ble_eq_true hh.1.1, hh.1.2⟩
    · rw [lget_ne _ _ hi] at h
      exact idsGe_get hh.2 id o h
theorem lget_append {β : Type 1} : ∀ (A B : List (Nat × β)) (i : Nat), lget (A ++ B) i = match lget A i with
    | some x => some x
    | none => lget B i
  | [], B, i => rfl
  | (k, x) :: r, B, i => by
    by_cases hi : i = k
    · subst hi
      rw [List.cons_append, lget_same, lget_same]
    · rw [List.cons_append, lget_ne _ _ hi, lget_ne _ _ hi, lget_append r B i]

section
variable {P : Program} {tt : TT} {pl : Plans} {s : St} {K : D → St → Prop} {f : FuncId} {args : List D}

def freshEnv (E : Env) (s : St) (σ : Nat → Nat) (τ : Nat → Value) (w : World) (n : Nat) : Env := ⟨w, (ctxOf E s.H s.nx σ τ w).ok, fun _ => False, n, fun _ _ _ => False⟩

theorem merge_state {E : Env} {σ : Nat → Nat} {τ : Nat → Value} {a : Act} {w : World} (hs : SR E s σ τ a w) {n : Nat} {H1 : List (Nat × LO)} {nx1 : Nat} {σ1 : Nat → Nat} {τ1 : Nat → Value} {w1 : World} (h2 : HR (freshEnv E s σ τ w n) H1 nx1 σ1 τ1 w1) (hfr : idsGe s.nx H1 = true) (hnx : s.nx ≤ nx1) :
    Below w.heap.size w w1 ∧ ∃ σ2 τ2, SR E ⟨s.F, H1 ++ s.H, nx1, s.G⟩ σ2 τ2 a w1 ∧ ∀ d v, geOk 6 s.nx d = true → Rep (ctxOf (freshEnv E s σ τ w n) H1 nx1 σ1 τ1 w1) d v → Rep (ctxOf E (H1 ++ s.H) nx1 σ2 τ2 w1) d v := by
  have hbel : Under w.heap.size w w1 := ⟨⟨h2.kept.os, h2.kept.tape, h2.kept.output, h2.kept.size, fun k hk => h2.kept.block k hk (fun h => h)⟩, h2.kept.drawn⟩
  have hge := idsGe_get hfr
  let σ2 : Nat → Nat := fun id => if id < s.nx then σ id else σ1 id
  let τ2 : Nat → Value := fun id => if id < s.nx then τ id else τ1 id
  have σlo : ∀ id, id < s.nx → σ2 id = σ id := fun id h => if_pos h
  have σhi : ∀ id, s.nx ≤ id → σ2 id = σ1 id := fun id h => if_neg (by omega)
  have τlo : ∀ id, id < s.nx → τ2 id = τ id := fun id h => if_pos h
  have τhi : ∀ id, s.nx ≤ id → τ2 id = τ1 id := fun id h => if_neg (by omega)
  -- which object is whose
  have hget : ∀ id o, lget (H1 ++ s.H) id = some o → (s.nx ≤ id ∧ loGe s.nx o = true ∧ lget H1 id = some o) ∨ (id < s.nx ∧ lget s.H id = some o) := by
    intro id o ho
    rw [lget_append] at ho
    cases hq : lget H1 id with
    | some x =>
      rw [hq] at ho
      injection ho with ho; subst ho
      exact .inl ⟨(hge id x hq).1, (hge id x hq).2, rfl⟩
    | none =>
      rw [hq] at ho
      exact .inr ⟨hs.heap.below id o ho, ho⟩
  have hown : ∀ id b, owned (H1 ++ s.H) σ2 τ2 id b → (s.nx ≤ id ∧ owned H1 σ1 τ1 id b) ∨ (id < s.nx ∧ owned s.H σ τ id b) := by
    intro id b ho
    rcases ho with ⟨el, l, h6, h7⟩ | ⟨α, el, e, enc, L, h6, h7⟩ | ⟨o, h6, h7⟩
    rotate_left 2
    · rcases hget id _ h6 with ⟨h8, _, h9⟩ | ⟨h8, h9⟩
      · exact .inl ⟨h8, .inr (.inr ⟨o, h9, by rw [← σhi id h8]; exact h7⟩)⟩
      · exact .inr ⟨h8, .inr (.inr ⟨o, h9, by rw [← σlo id h8]; exact h7⟩)⟩
    · rcases hget id _ h6 with ⟨h8, _, h9⟩ | ⟨h8, h9⟩
      · exact .inl ⟨h8, .inl ⟨el, l, h9, by rw [← σhi id h8]; exact h7⟩⟩
      · exact .inr ⟨h8, .inl ⟨el, l, h9, by rw [← σlo id h8]; exact h7⟩⟩
    · rcases hget id _ h6 with ⟨h8, _, h9⟩ | ⟨h8, h9⟩
      · exact .inl ⟨h8, .inr (.inl ⟨α, el, e, enc, L, h9, by rw [← τhi id h8]; exact h7⟩)⟩
      · exact .inr ⟨h8, .inr (.inl ⟨α, el, e, enc, L, h9, by rw [← τlo id h8]; exact h7⟩)⟩
  have hnew : ∀ id b, owned H1 σ1 τ1 id b → w.heap.size ≤ b := by
    intro id b ho
    rcases ho with ⟨el, l, h6, rfl⟩ | ⟨α, el, e, enc, L, h6, h7⟩ | ⟨o, h6, h7⟩
    rotate_left 2
    · exact (((h2.obj id o h6).1 b h7).1).elim (fun h => h.elim) fun h => h
    · exact ((h2.cells id el l h6).1).elim (fun h => h.elim) fun h => h
    · exact ((h2.grow id α el e enc L h6).1 b h7).elim (fun h => h.elim) fun h => h
  have le1 : (ctxOf E s.H s.nx σ τ w).Le (ctxOf E (H1 ++ s.H) nx1 σ2 τ2 w1) := by
    refine ⟨fun b o hk hc => (hbel.block b hk.2.1).trans hc, fun b hk => ⟨hk.1, Nat.lt_of_lt_of_le hk.2.1 hbel.size, fun id ho => ?_⟩, fun id off v hv => ⟨Nat.lt_of_lt_of_le hv.1 hnx, by rw [σlo id hv.1]; exact hv.2⟩, fun id v hv => ⟨Nat.lt_of_lt_of_le hv.1 hnx, by rw [τlo id hv.1]; exact hv.2⟩,
      fun id off v hv => ⟨Nat.lt_of_lt_of_le hv.1 hnx, by rw [τlo id hv.1]; exact hv.2⟩⟩
    rcases hown id b ho with ⟨_, h6⟩ | ⟨_, h6⟩
    · have := hnew id b h6; have := hk.2.1; omega
    · exact hk.2.2 id h6
  have le2 : ((ctxOf (freshEnv E s σ τ w n) H1 nx1 σ1 τ1 w1).ge s.nx).Le (ctxOf E (H1 ++ s.H) nx1 σ2 τ2 w1) := by
    refine ⟨fun _ _ _ h => h, fun b hk => ⟨?_, hk.2.1, fun id ho => ?_⟩, fun id off v hv => ⟨hv.2.1, by rw [σhi id hv.1]; exact hv.2.2⟩, fun id v hv => ⟨hv.2.1, by rw [τhi id hv.1]; exact hv.2.2⟩, fun id off v hv => ⟨hv.2.1, by rw [τhi id hv.1]; exact hv.2.2⟩⟩
    · rcases hk.1 with h6 | h6 | h6
      · exact h6.1
      · exact h6.elim
      · exact .inr (.inr (Nat.le_trans hs.heap.kept.size h6))
    · rcases hown id b ho with ⟨_, h6⟩ | ⟨_, h6⟩
      · exact hk.2.2 id h6
      · rcases hk.1 with h7 | h7 | h7
        · exact h7.2.2 id h6
        · exact h7.elim
        · have := owned_lt hs.heap h6
          have h7 : w.heap.size ≤ b := h7
          omega
  refine ⟨hbel.toBelow, σ2, τ2, ⟨⟨hs.heap.kept.below hbel, hs.heap.few, fun id el l h6 => ?_, fun id α el e enc L h6 => ?_, fun i j b h6 h7 => ?_, fun id o h6 => ?_, fun id => ?_, fun id o h6 => by
    rcases hget id _ h6 with ⟨h8, h9, h10⟩ | ⟨h8, h10⟩
    · obtain ⟨h11, h12⟩ := h2.obj id o h10
      rw [σhi id h8]
      exact ⟨fun k hk => ⟨.inr (Nat.le_trans hs.heap.kept.size ((h11 k hk).1.elim (fun h => h.elim) fun h => h)), (h11 k hk).2⟩, OA.at_mono h12 (fun _ _ => rfl) (Nat.le_refl _) le2.still⟩
    · obtain ⟨h11, h12⟩ := hs.heap.obj id o h10
      rw [σlo id h8]
      exact ⟨fun k hk => ⟨(h11 k hk).1, Nat.lt_of_lt_of_le (h11 k hk).2 hbel.size⟩, OA.at_mono h12 (fun k hk => hbel.block k (h11 k hk).2) hbel.size le1.still⟩⟩, hs.defers, hs.size, fun i d hd => (hs.slots i d hd).mono le1, hs.ghost_le (s' := ⟨s.F, H1 ++ s.H, nx1, s.G⟩) rfl le1, Nat.le_trans hs.room hnx⟩,
    fun d v hd hr => (ge_rep 6 _ _ _ hd hr).mono le2⟩
  · rcases hget id _ h6 with ⟨h8, h9, h10⟩ | ⟨h8, h10⟩
    · obtain ⟨h11, c1, h12, h13, h14⟩ := h2.cells id el l h10
      rw [σhi id h8]
      refine ⟨.inr (Nat.le_trans hs.heap.kept.size (h11.elim (fun h => h.elim) fun h => h)), c1, h12, h13, fun j d u hd hu => (ge_rep 6 _ _ _ ?_ (h14 j d u hd hu)).mono le2⟩
      simp only [loGe] at h9
      exact all_at h9 hd
    · obtain ⟨h11, c1, h12, h13, h14⟩ := hs.heap.cells id el l h10
      rw [σlo id h8]
      exact ⟨h11, c1, (hbel.block _ (Array.getElem?_eq_some_iff.1 h12).1).trans h12, h13, fun j d u hd hu => (h14 j d u hd hu).mono le1⟩
  · rcases hget id _ h6 with ⟨h8, h9, h10⟩ | ⟨h8, h10⟩
    · obtain ⟨h11, xs, h12, h13, h14⟩ := h2.grow id α el e enc L h10
      rw [τhi id h8]
      exact ⟨fun g hg => .inr (Nat.le_trans hs.heap.kept.size ((h11 g hg).elim (fun h => h.elim) fun h => h)), xs, h12, h13, fun i x j d u hx hd hu => (h14 i x j d u hx hd hu).mono (le2.still)⟩
    · obtain ⟨h11, xs, h12, h13, h14⟩ := hs.heap.grow id α el e enc L h10
      rw [τlo id h8]
      exact ⟨h11, xs, own_below h12 hbel.toBelow, h13, fun i x j d u hx hd hu => (h14 i x j d u hx hd hu).mono le1.still⟩
  · rcases hown i b h6 with ⟨h8, h9⟩ | ⟨h8, h9⟩ <;> rcases hown j b h7 with ⟨h10, h11⟩ | ⟨h10, h11⟩
    · exact h2.apart i j b h9 h11
    · have := hnew i b h9; have := owned_lt hs.heap h11; omega
    · have := hnew j b h11; have := owned_lt hs.heap h9; omega
    · exact hs.heap.apart i j b h9 h11
  · rcases hget id _ h6 with ⟨_, _, h10⟩ | ⟨h8, _⟩
    · exact h2.below id o h10
    · exact Nat.lt_of_lt_of_le h8 hnx
  · by_cases hid : id < s.nx
    · rw [τlo id hid]; exact hs.heap.slices id
    · rw [τhi id (by omega)]; exact h2.slices id

theorem fresh_start {E : Env} {σ : Nat → Nat} {τ : Nat → Value} {a : Act} {w : World} (hs : SR E s σ τ a w) {n : Nat} {args' : List Value} (hr : reps (ctxOf E s.H s.nx σ τ w) args args') (hlen : args'.length ≤ n) (hcut : args.all (cutOk 6 0) = true) :
    SR (freshEnv E s σ τ w n) ⟨enumD args 0, [], s.nx, ([], 0)⟩ σ τ { tmps := args'.toArray ++ Array.replicate (n - args'.toArray.size) undef, defers := [] } w := by
  have hr0 : reps (ctxOf (freshEnv E s σ τ w n) [] s.nx σ τ w) args args' := ⟨hr.1, fun j d u hd hu => (cut_rep 6 d _ u (all_at hcut hd) (hr.2 j d u hd hu)).mono
    ⟨fun _ _ _ h => h, (fun b hb => ⟨.inl hb, hb.2.1, fun id ho => by rcases ho with ⟨_, _, h, _⟩ | ⟨_, _, _, _, _, h, _⟩ | ⟨_, h, _⟩ <;> cases h⟩), fun _ _ _ h => absurd h.1 (Nat.not_lt_zero _), fun _ _ h => absurd h.1 (Nat.not_lt_zero _), fun _ _ _ h => absurd h.1 (Nat.not_lt_zero _)⟩⟩
  exact ⟨⟨⟨rfl, rfl, rfl, Nat.le_refl _, fun _ _ _ => rfl, Nat.le_refl _⟩, fun b hb => ⟨fun h => h, hb.2.1⟩, (fun id el l h => by cases h), (fun id α el e enc L h => by cases h), (fun i j b h => by rcases h with ⟨_, _, h, _⟩ | ⟨_, _, _, _, _, h, _⟩ | ⟨_, h, _⟩ <;> cases h), (fun id o h => by cases h), hs.heap.slices, fun id o h => by cases h⟩,
      rfl, by simp [freshEnv]; omega, fun i d hd => enter_slots hr0 n i d hd, fun _ _ _ h => h.elim, Nat.zero_le _⟩

theorem CallVC.freshTo {g : Bool} (htt : ttOk P tt) (hb : entersAll P = true) (hm : P.follows .mixedOrders = true) {fn : Func} {c : Code} (hfn : P.funcs[f]? = some fn) (hc : fn.body = some c) (hok : codeOk pl fn.ntmps c = true) (hn : args.length ≤ fn.ntmps) (h0 : 0 < fn.ntmps) (hcut : args.all (cutOk 6 0) = true)
    (h : wpc P tt pl c ⟨enumD args 0, [], s.nx, ([], 0)⟩ fun e s' => endK e (resK tt s' fn.results.toList fun l => seeD (oneD l) fun d => ∃ r z d' H' n', Cover r z ⟨(0, d) :: s'.F, s'.H, s'.nx, s'.G⟩ ⟨[(0, d')], H', n', ([], 0)⟩ ∧ freshOk s.nx H' d' = true ∧ Nat.ble s.nx n' = true ∧ K d' ⟨s.F, H' ++ s.H, n', s.G⟩)) : CallVC P g f args s K := by
  refine ⟨⟨fn, hfn, by rw [hc]; rfl⟩, fun E σ τ a w args' hs hr => ?_⟩
  refine calls_of_wp hfn hc (wp_mono (wpc_sound (E := freshEnv E s σ τ w fn.ntmps) htt hb hm c hok _ _ _ _ _ w h (fresh_start hs hr (by rw [hr.1]; exact hn) hcut)) fun e a1 w1 hh => ?_)
  obtain ⟨x, s1, σ1, τ1, rfl, h1, h2⟩ := hh
  have fin : resK tt s1 fn.results.toList (fun l => seeD (oneD l) fun d => ∃ r z d' H' n', Cover r z ⟨(0, d) :: s1.F, s1.H, s1.nx, s1.G⟩ ⟨[(0, d')], H', n', ([], 0)⟩ ∧ freshOk s.nx H' d' = true ∧ Nat.ble s.nx n' = true ∧ K d' ⟨s.F, H' ++ s.H, n', s.G⟩) →
      a1.defers = [] ∧ ∃ v, (results fn a1.tmps).run P w1 = .ok v w1 ∧ ∃ d s' σ' τ' u, K d s' ∧ Ending.returned v = .returned u ∧ SR E s' σ' τ' a w1 ∧ Rep (ctxOf E s'.H s'.nx σ' τ' w1) d u ∧ (g = true → Below w.heap.size w w1) := by
    intro hres
    obtain ⟨l, vs, h3, h4, h5⟩ := resK_run htt h2 _ _ hres
    rw [seeD_eq] at h3
    obtain ⟨r, z, d', H', n', hcov, hfr, hnx, hk⟩ := h3
    simp only [freshOk, Bool.and_eq_true] at hfr
    have hput := put_state h2 (oneD_rep h4) (dst := some 0) (fun i hi => by injection hi with hi; subst hi; exact h0)
    have hcv := cover_state hcov hput
    have hd0 := hcv.slots 0 d' (lget_same 0 d' [])
    have hval : (a1.put (some 0) (oneV vs)).tmps.getD 0 undef = oneV vs := by
      have hsz : 0 < a1.tmps.size := by rw [h2.size]; exact h0
      simp [Act.put, Array.getD_eq_getD_getElem?, hsz]
    rw [hval] at hd0
    obtain ⟨hbel, σ2, τ2, h6, h7⟩ := merge_state hs hcv.heap hfr.1 (Nat.le_of_ble_eq_true hnx)
    exact ⟨h2.defers, _, results_at h5, _, _, σ2, τ2, _, hk, rfl, h6, h7 _ _ hfr.2 hd0, fun _ => hbel⟩
  cases x with
  | normal => exact fin h1
  | ret => exact fin h1
  | exit i => exact h1.elim
end
end Go.Proofs.YtcbpdjikdohegaaGreat.V
namespace Go.Proofs.YtcbpdjikdohegaaGreat.V
open Go.RowKit

def tt : TT := [
  (3, ⟨.int .i64, 1, 8, [.int .i64 0]⟩),
  (24, ⟨.struct [(0, 22), (1, 22)], 2, 16, [.int .u64 0, .int .u64 0]⟩),
  (25, ⟨.slice 41, 1, 24, [.slice none 0 0]⟩),
  (26, ⟨.ptr, 1, 8, [.pointer none]⟩),
  (33, ⟨.struct [(0, 3), (1, 3), (2, 31)], 3, 40, [.int .i64 0, .int .i64 0, .slice none 0 0]⟩),
  (41, ⟨.struct [(0, 3), (1, 39), (14, 3)], 15, 72, [.int .i64 0, .int .u32 0, .int .u32 0, .int .u16 0, .int .u16 0, .int .u8 0, .int .i64 0, .int .i64 0, .int .i64 0, .bool false, .bool false, .int .u16 0, .int .u32 0, .int .u32 0, .int .i64 0]⟩),
  (39, ⟨.struct [(0, 37), (5, 3), (6, 3), (7, 3), (8, 4), (9, 4), (10, 35), (11, 34), (12, 34)], 13, 56, [.int .u32 0, .int .u32 0, .int .u16 0, .int .u16 0, .int .u8 0, .int .i64 0, .int .i64 0, .int .i64 0, .bool false, .bool false, .int .u16 0, .int .u32 0, .int .u32 0]⟩),
  (28, ⟨.ptr, 1, 8, [.pointer none]⟩),
  (4, ⟨.bool, 1, 1, [.bool false]⟩),
  (37, ⟨.struct [(0, 34), (1, 34), (2, 35), (3, 35), (4, 5)], 5, 16, [.int .u32 0, .int .u32 0, .int .u16 0, .int .u16 0, .int .u8 0]⟩),
  (31, ⟨.slice 39, 1, 24, [.slice none 0 0]⟩),
  (61, ⟨.struct [(0, 55), (1, 31), (2, 59), (3, 57)], 4, 64, [.pointer none, .slice none 0 0, .slice none 0 0, .pointer none]⟩),
  (55, ⟨.ptr, 1, 8, [.pointer none]⟩),
  (59, ⟨.slice 3, 1, 24, [.slice none 0 0]⟩),
  (57, ⟨.ptr, 1, 8, [.pointer none]⟩),
  (70, ⟨.slice 73, 1, 24, [.slice none 0 0]⟩),
  (73, ⟨.struct [(0, 3), (1, 3)], 2, 16, [.int .i64 0, .int .i64 0]⟩),
  (77, ⟨.other, 1, 8, [.nilFunc]⟩),
  (79, ⟨.other, 1, 8, [.nilFunc]⟩),
  (42, ⟨.int .i64, 1, 8, [.int .i64 0]⟩),
  (80, ⟨.slice 91, 1, 24, [.slice none 0 0]⟩),
  (82, ⟨.struct [(0, 80), (1, 24), (3, 3)], 4, 48, [.slice none 0 0, .int .u64 0, .int .u64 0, .int .i64 0]⟩),
  (83, ⟨.map 3 3, 1, 8, [.map none]⟩),
  (87, ⟨.struct [(0, 3), (1, 85), (49, 83)], 50, 1168, [.int .i64 0, .slice none 0 0, .slice none 0 0, .slice none 0 0, .slice none 0 0, .slice none 0 0, .slice none 0 0, .slice none 0 0, .slice none 0 0, .slice none 0 0, .slice none 0 0, .slice none 0 0, .slice none 0 0, .slice none 0 0, .slice none 0 0, .slice none 0 0, .slice none 0 0, .slice none 0 0, .slice none 0 0, .slice none 0 0, .slice none 0 0, .slice none 0 0, .slice none 0 0, .slice none 0 0, .slice none 0 0, .slice none 0 0, .slice none 0 0, .slice none 0 0, .slice none 0 0, .slice none 0 0, .slice none 0 0, .slice none 0 0, .slice none 0 0, .slice none 0 0, .slice none 0 0, .slice none 0 0, .slice none 0 0, .slice none 0 0, .slice none 0 0, .slice none 0 0, .slice none 0 0, .slice none 0 0, .slice none 0 0, .slice none 0 0, .slice none 0 0, .slice none 0 0, .slice none 0 0, .slice none 0 0, .slice none 0 0, .map none]⟩),
  (91, ⟨.struct [(0, 37), (5, 3), (6, 4)], 7, 32, [.int .u32 0, .int .u32 0, .int .u16 0, .int .u16 0, .int .u8 0, .int .i64 0, .bool false]⟩),
  (34, ⟨.int .u32, 1, 4, [.int .u32 0]⟩),
  (35, ⟨.int .u16, 1, 2, [.int .u16 0]⟩),
  (5, ⟨.int .u8, 1, 1, [.int .u8 0]⟩),
  (93, ⟨.slice 34, 1, 24, [.slice none 0 0]⟩),
  (85, ⟨.array 3 84, 48, 1152, [.slice none 0 0, .slice none 0 0, .slice none 0 0, .slice none 0 0, .slice none 0 0, .slice none 0 0, .slice none 0 0, .slice none 0 0, .slice none 0 0, .slice none 0 0, .slice none 0 0, .slice none 0 0, .slice none 0 0, .slice none 0 0, .slice none 0 0, .slice none 0 0, .slice none 0 0, .slice none 0 0, .slice none 0 0, .slice none 0 0, .slice none 0 0, .slice none 0 0, .slice none 0 0, .slice none 0 0, .slice none 0 0, .slice none 0 0, .slice none 0 0, .slice none 0 0, .slice none 0 0, .slice none 0 0, .slice none 0 0, .slice none 0 0, .slice none 0 0, .slice none 0 0, .slice none 0 0, .slice none 0 0, .slice none 0 0, .slice none 0 0, .slice none 0 0, .slice none 0 0, .slice none 0 0, .slice none 0 0, .slice none 0 0, .slice none 0 0, .slice none 0 0, .slice none 0 0, .slice none 0 0, .slice none 0 0]⟩),
  (84, ⟨.array 16 70, 16, 384, [.slice none 0 0, .slice none 0 0, .slice none 0 0, .slice none 0 0, .slice none 0 0, .slice none 0 0, .slice none 0 0, .slice none 0 0, .slice none 0 0, .slice none 0 0, .slice none 0 0, .slice none 0 0, .slice none 0 0, .slice none 0 0, .slice none 0 0, .slice none 0 0]⟩),
  (92, ⟨.other, 1, 8, [.nilFunc]⟩),
  (99, ⟨.int .u64, 1, 8, [.int .u64 0]⟩),
  (101, ⟨.slice 5, 1, 24, [.slice none 0 0]⟩),
  (108, ⟨.other, 1, 8, [.nilFunc]⟩),
  (110, ⟨.int .i64, 1, 8, [.int .i64 0]⟩),
  (130, ⟨.slice 35, 1, 24, [.slice none 0 0]⟩),
  (124, ⟨.int .u64, 1, 8, [.int .u64 0]⟩),
  (128, ⟨.ptr, 1, 8, [.pointer none]⟩),
  (22, ⟨.int .u64, 1, 8, [.int .u64 0]⟩),
  (138, ⟨.ptr, 1, 8, [.pointer none]⟩),
  (142, ⟨.struct [(0, 22), (1, 22), (2, 22), (3, 22)], 4, 32, [.int .u64 0, .int .u64 0, .int .u64 0, .int .u64 0]⟩),
  (140, ⟨.ptr, 1, 8, [.pointer none]⟩)
]
theorem ttH : ttOk Tryz.prog tt := by unfold ttOk; kernel_rfl
theorem ebH : entersAll Tryz.prog = true := by kernel_rfl
theorem mxH : Tryz.prog.follows .mixedOrders = true := by kernel_rfl

theorem fnOf {f : FuncId} {fn : Func} {c : Code} (pl : Plans) (hfn : Tryz.prog.funcs[f]? = some fn) (hc : fn.body = some c) (hok : codeOk pl fn.ntmps c = true) {args : List D} {Q : D → Prop} (hn : args.length ≤ fn.ntmps)
    (h : wpc Tryz.prog tt pl c ⟨enumD args 0, [], 0, ([], 0)⟩ fun e s => endK e (resK tt s fn.results.toList fun l => seeD (snapD 6 s.H (oneD l)) Q)) : Fn Tryz.prog f args Q := fn_of_wpc ttH ebH mxH hfn hc hok hn h
theorem goIn {f : FuncId} {fn : Func} {c : Code} {args : List D} {s : St} {K : D → St → Prop} (pl : Plans) (hfn : Tryz.prog.funcs[f]? = some fn) (hc : fn.body = some c) (hok : codeOk pl fn.ntmps c = true) (hn : args.length ≤ fn.ntmps)
    (h : wpc Tryz.prog tt pl c ⟨enumD args 0, s.H, s.nx, (upto s.nx 0, s.nx)⟩ fun e s' => endK e (resK tt s' fn.results.toList fun l => seeD (oneD l) fun d => K d ⟨s.F, s'.H, s'.nx, s.G⟩)) : CallVC Tryz.prog false f args s K :=
  CallVC.inline ttH ebH mxH hfn hc hok hn h
end Go.Proofs.YtcbpdjikdohegaaGreat.V
namespace Go.Proofs.YtcbpdjikdohegaaGreat.V
open Go.RowKit

structure Turned (b : Nat) (w w' : World) : Prop where
  os : w'.os = w.os
  tape : w'.tape = w.tape
  output : w'.output = w.output
  size : w.heap.size ≤ w'.heap.size
  block : ∀ k, k < w.heap.size → k ≠ b → w'.heap[k]? = w.heap[k]?
  drawn : w.drawn ≤ w'.drawn

def newB (B : Nat → Prop) (w w' : World) : Nat → Prop := fun b => B b ∨ (w.heap.size ≤ b ∧ b < w'.heap.size)

def Ob (P : Program) (f : FuncId) (el : TypeId) (X rest : List D) (Q : D → List D → Prop) : Prop :=
  hasBody P f ∧ ∀ (w : World) (B : Nat → Prop) (b : Nat) (c : Array Value) (args' : List Value), (∀ k, B k → k < w.heap.size ∧ k ≠ b) → w.heap[b]? = some (.cells c el (0, 0)) → reps (baseCtx w B) X c.toList → reps (baseCtx w B) rest args' →
    Calls P f (Value.pointer (some ⟨b, 0, none⟩) :: args').toArray w fun e w' => ∃ d v X' c', Q d X' ∧ e = .returned v ∧ Turned b w w' ∧ w'.heap[b]? = some (.cells c' el (0, 0)) ∧ reps (baseCtx w' (newB B w w')) X' c'.toList ∧ Rep (baseCtx w' (newB B w w')) d v

theorem Ob.mono {P : Program} {f : FuncId} {el : TypeId} {X rest : List D} {Q Q' : D → List D → Prop} (h : Ob P f el X rest Q) (hq : ∀ d X', Q d X' → Q' d X') : Ob P f el X rest Q' :=
  ⟨h.1, fun w B b c args' h1 h2 h3 h4 => (h.2 w B b c args' h1 h2 h3 h4).mono fun _ _ ⟨d, v, X', c', h5, h6⟩ => ⟨d, v, X', c', hq d X' h5, h6⟩⟩

def obAt (el : TypeId) (s : St) (K : List D → Prop) : Prop := match lget s.H 0 with
  | some (.cells el' X') => match Nat.beq el' el with
    | true => K X'
    | false => False
  | _ => False
theorem obAt_spec {el : TypeId} {s : St} {K : List D → Prop} (h : obAt el s K) : ∃ X', lget s.H 0 = some (.cells el X') ∧ K X' := by
  unfold obAt at h
  split at h
  · rename_i el' X' h1
    split at h
    · rename_i h2
      have := Nat.eq_of_beq_eq_true h2
      subst this
      exact ⟨X', h1, h⟩
    · exact h.elim
  · exact h.elim

theorem owned_dead {H : List (Nat × LO)} {σ : Nat → Nat} {τ : Nat → Value} {id b : Nat} (h : owned ((0, .dead) :: H) σ τ id b) : id ≠ 0 ∧ owned H σ τ id b := by
  by_cases hi : id = 0
  · subst hi
    rcases h with ⟨el, l, h1, _⟩ | ⟨α, el, e, enc, L, h1, _⟩ | ⟨o, h1, _⟩ <;> (rw [lget_same] at h1; cases h1)
  · refine ⟨hi, ?_⟩
    rcases h with ⟨el, l, h1, h2⟩ | ⟨α, el, e, enc, L, h1, h2⟩ | ⟨o, h1, h2⟩
    rotate_left 2
    · rw [lget_ne _ _ hi] at h1; exact .inr (.inr ⟨o, h1, h2⟩)
    · rw [lget_ne _ _ hi] at h1; exact .inl ⟨el, l, h1, h2⟩
    · rw [lget_ne _ _ hi] at h1; exact .inr (.inl ⟨α, el, e, enc, L, h1, h2⟩)

section
variable {P : Program} {tt : TT} {pl : Plans} {s : St} {K : D → St → Prop} {f : FuncId}

def obEnv (w : World) (B : Nat → Prop) (b n : Nat) : Env := ⟨w, B, fun k => k = b, n, fun G d v => G = ([0], 1) ∧ d = .loc 0 0 ∧ v = .pointer (some ⟨b, 0, none⟩)⟩
def elder (w w1 : World) : World := { w1 with heap := w1.heap.extract 0 w.heap.size }

theorem ob_end {w w1 : World} {B : Nat → Prop} {b n : Nat} {s1 : St} {σ : Nat → Nat} {τ : Nat → Value} {a : Act} (hs : SR (obEnv w B b n) s1 σ τ a w1) {el : TypeId} {X : List D} (h0 : lget s1.H 0 = some (.cells el X)) (hb : σ 0 = b) (hB : ∀ k, B k → k < w.heap.size) :
    ∀ (k : Nat) (d : D) (v : Value), Rep (ctxOf (obEnv w B b n) s1.H s1.nx σ τ w1) d v → Rep (baseCtx w1 (newB B w w1)) (snapD k ((0, .dead) :: s1.H) d) v := by
  have hsz : (elder w w1).heap.size = w.heap.size := by
    show (w1.heap.extract 0 w.heap.size).size = _
    have := hs.heap.kept.size
    have h9 : w.heap.size ≤ w1.heap.size := this
    simp [Array.size_extract]; omega
  have hown0 : owned s1.H σ τ 0 b := .inl ⟨_, _, h0, hb.symm⟩
  have hle : (ctxOf (obEnv w B b n) s1.H s1.nx σ τ w1).Le (ctxOf ⟨elder w w1, B, fun _ => False, 0, fun _ _ _ => False⟩ ((0, .dead) :: s1.H) s1.nx σ τ w1) :=
    ⟨fun _ _ _ h => h, fun k hk => ⟨hk.1.elim .inl fun h => .inr (.inr (h.elim (fun h => absurd (by rw [show k = b from h]; exact hown0) (hk.2.2 0)) fun h => by show (elder w w1).heap.size ≤ k; rw [hsz]; exact h)), hk.2.1, fun id ho => hk.2.2 id (owned_dead ho).2⟩, fun _ _ _ h => h, fun _ _ h => h, fun _ _ _ h => h⟩
  have hr : HR ⟨elder w w1, B, fun _ => False, 0, fun _ _ _ => False⟩ ((0, .dead) :: s1.H) s1.nx σ τ w1 := by
    refine ⟨⟨rfl, rfl, rfl, ?_, fun k hk _ => ?_, Nat.le_refl _⟩, fun k hk => ⟨fun h => h, by show k < (elder w w1).heap.size; rw [hsz]; exact hB k hk⟩, fun id el' l h => ?_, fun id α el' e enc L h => ?_, fun i j k h1 h2 => hs.heap.apart i j k (owned_dead h1).2 (owned_dead h2).2, fun id o h => ?_, hs.heap.slices, fun id o h => by
      have hi : id ≠ 0 := by rintro rfl; rw [lget_same] at h; cases h
      rw [lget_ne _ _ hi] at h
      obtain ⟨h1, h2⟩ := hs.heap.obj id o h
      refine ⟨fun k hk => ⟨.inr ?_, (h1 k hk).2⟩, OA.at_mono h2 (fun _ _ => rfl) (Nat.le_refl _) hle.still⟩
      show (elder w w1).heap.size ≤ _
      rw [hsz]
      rcases (h1 k hk).1 with h3 | h3
      · have h3 : k = b := h3
        subst h3
        exact absurd (hs.heap.apart id 0 k (.inr (.inr ⟨_, h, hk⟩)) hown0) hi
      · exact h3⟩
    · show (elder w w1).heap.size ≤ _; rw [hsz]; exact hs.heap.kept.size
    · have hk : k < (elder w w1).heap.size := hk
      rw [hsz] at hk
      have h9 : w.heap.size ≤ w1.heap.size := hs.heap.kept.size
      show w1.heap[k]? = (w1.heap.extract 0 w.heap.size)[k]?
      rw [Array.getElem?_extract]
      rw [if_pos (by omega)]
      simp
    · have hi : id ≠ 0 := by rintro rfl; rw [lget_same] at h; cases h
      rw [lget_ne _ _ hi] at h
      obtain ⟨h1, c, h2, h3, h4⟩ := hs.heap.cells id el' l h
      refine ⟨.inr ?_, c, h2, h3, fun j d u hd hu => (h4 j d u hd hu).mono hle⟩
      show (elder w w1).heap.size ≤ _
      rw [hsz]
      rcases h1 with h1 | h1
      · exact absurd (hs.heap.apart id 0 b (.inl ⟨_, _, h, h1.symm⟩) hown0) hi
      · exact h1
    · have hi : id ≠ 0 := by rintro rfl; rw [lget_same] at h; cases h
      rw [lget_ne _ _ hi] at h
      obtain ⟨h1, xs, h2, h3, h4⟩ := hs.heap.grow id α el' e enc L h
      refine ⟨fun g hg => .inr ?_, xs, h2, h3, fun i x j d u hx hd hu => (h4 i x j d u hx hd hu).mono hle.still⟩
      show (elder w w1).heap.size ≤ _
      rw [hsz]
      rcases h1 g hg with h5 | h5
      · have h5 : g = b := h5
        subst h5
        exact absurd (hs.heap.apart id 0 g (.inr (.inl ⟨_, _, _, _, _, h, hg⟩)) hown0) hi
      · exact h5
    · by_cases hi : id = 0
      · subst hi; exact hs.heap.below 0 _ h0
      · rw [lget_ne _ _ hi] at h; exact hs.heap.below id o h
  intro k d v hd
  refine (snap_rep (s := ⟨[], (0, .dead) :: s1.H, s1.nx, ([], 0)⟩) hr k d v (hd.mono hle)).mono ⟨fun _ _ _ h => h, fun k hk => ?_, fun _ _ _ h => h, fun _ _ h => h, fun _ _ _ h => h⟩
  obtain ⟨h6, h7⟩ := hk
  rcases h6 with (h6 | h6) | h6
  · exact .inl h6
  · exact h6.elim
  · refine .inr ⟨?_, h7⟩
    have h6 : (elder w w1).heap.size ≤ k := h6
    rw [hsz] at h6; exact h6

theorem ob_of_wpc (htt : ttOk P tt) (hb : entersAll P = true) (hm : P.follows .mixedOrders = true) {fn : Func} {c : Code} {el : TypeId} {X rest : List D} {Q : D → List D → Prop} (hfn : P.funcs[f]? = some fn) (hc : fn.body = some c) (hok : codeOk pl fn.ntmps c = true)
    (hn : rest.length + 1 ≤ fn.ntmps) (h : wpc P tt pl c ⟨enumD (.loc 0 0 :: rest) 0, [(0, .cells el X)], 1, ([0], 1)⟩ fun e s' => endK e (resK tt s' fn.results.toList fun l => seeD (oneD l) fun d => obAt el s' fun X' => seeD (snapD 6 ((0, .dead) :: s'.H) d) fun d => seeL (X'.map (snapD 6 ((0, .dead) :: s'.H))) fun X' => Q d X')) : Ob P f el X rest Q := by
  refine ⟨⟨fn, hfn, by rw [hc]; rfl⟩, fun w B b cc args' hB hblk hX hr => ?_⟩
  have hsz : b < w.heap.size := (Array.getElem?_eq_some_iff.1 hblk).1
  let σ0 : Nat → Nat := fun _ => b
  let τ0 : Nat → Value := fun _ => .slice none 0 0
  have hown : ∀ id k, owned [(0, .cells el X)] σ0 τ0 id k → id = 0 ∧ k = b := by
    intro id k ho
    by_cases hi : id = 0
    · subst hi
      rcases ho with ⟨_, _, h1, h2⟩ | ⟨_, _, _, _, _, h1, h2⟩ | ⟨_, h1, h2⟩
      rotate_left 2
      · rw [lget_same] at h1; cases h1
      · exact ⟨rfl, h2⟩
      · rw [lget_same] at h1; cases h1
    · rcases ho with ⟨_, _, h1, h2⟩ | ⟨_, _, _, _, _, h1, h2⟩ | ⟨_, h1, h2⟩ <;> (rw [lget_ne _ _ hi] at h1; cases h1)
  have hle : (baseCtx w B).Le (ctxOf (obEnv w B b fn.ntmps) [(0, .cells el X)] 1 σ0 τ0 w) :=
    ⟨fun _ _ _ h => h, fun k hk => ⟨.inl hk, (hB k hk).1, fun id ho => (hB k hk).2 (hown id k ho).2⟩, fun _ _ _ h => h.elim, fun _ _ h => h.elim, fun _ _ _ h => h.elim⟩
  have hr1 : reps (ctxOf (obEnv w B b fn.ntmps) [(0, .cells el X)] 1 σ0 τ0 w) (.loc 0 0 :: rest) (.pointer (some ⟨b, 0, none⟩) :: args') :=
    reps_cons (.loc ⟨Nat.zero_lt_one, rfl⟩) ⟨hr.1, fun j d u hd hu => (hr.2 j d u hd hu).mono hle⟩
  have hlen : args'.length + 1 ≤ fn.ntmps := by rw [hr.1]; exact hn
  have hs : SR (obEnv w B b fn.ntmps) ⟨enumD (.loc 0 0 :: rest) 0, [(0, .cells el X)], 1, ([0], 1)⟩ σ0 τ0 { tmps := (Value.pointer (some ⟨b, 0, none⟩) :: args').toArray ++ Array.replicate (fn.ntmps - (Value.pointer (some ⟨b, 0, none⟩) :: args').toArray.size) undef, defers := [] } w := by
    refine ⟨⟨⟨rfl, rfl, rfl, Nat.le_refl _, fun _ _ _ => rfl, Nat.le_refl _⟩, fun k hk => ⟨fun h => (hB k hk).2 h, (hB k hk).1⟩, fun id el' l h => ?_, fun id α el' e enc L h => ?_, fun i j k h1 h2 => ?_, fun id o h => ?_, fun _ => ⟨_, _, _, rfl⟩, fun id o h => by
      by_cases hi : id = 0
      · subst hi; rw [lget_same] at h; cases h
      · rw [lget_ne _ _ hi] at h; cases h⟩, rfl, ?_, fun i d hd => enter_slots hr1 fn.ntmps i d hd, fun G d v hx => ?_, Nat.le_refl _⟩
    · by_cases hi : id = 0
      · subst hi
        rw [lget_same] at h
        injection h with h; injection h with h1 h2; subst h1 h2
        exact ⟨.inl rfl, cc, hblk, by simpa using hX.1, fun j d u hd hu => (hX.2 j d u hd (by simpa using hu)).mono hle⟩
      · rw [lget_ne _ _ hi] at h; cases h
    · by_cases hi : id = 0
      · subst hi; rw [lget_same] at h; cases h
      · rw [lget_ne _ _ hi] at h; cases h
    · rw [(hown i k h1).1, (hown j k h2).1]
    · by_cases hi : id = 0
      · subst hi; exact Nat.zero_lt_one
      · rw [lget_ne _ _ hi] at h; cases h
    · simp [obEnv]; omega
    · obtain ⟨rfl, rfl, rfl⟩ := hx
      exact ⟨fun id h1 h2 => ⟨h1, h2⟩, Nat.le_refl _, .loc ⟨Nat.zero_lt_one, Nat.zero_lt_one, rfl⟩⟩
  refine calls_of_wp hfn hc (wp_mono (wpc_sound (E := obEnv w B b fn.ntmps) htt hb hm c hok _ _ _ _ _ w h hs) fun e a1 w1 hh => ?_)
  obtain ⟨x, s1, σ1, τ1, rfl, h1, h2⟩ := hh
  have fin : resK tt s1 fn.results.toList (fun l => seeD (oneD l) fun d => obAt el s1 fun X' => seeD (snapD 6 ((0, .dead) :: s1.H) d) fun d => seeL (X'.map (snapD 6 ((0, .dead) :: s1.H))) fun X' => Q d X') →
      a1.defers = [] ∧ ∃ v, (results fn a1.tmps).run P w1 = .ok v w1 ∧ ∃ d u X' c', Q d X' ∧ Ending.returned v = .returned u ∧ Turned b w w1 ∧ w1.heap[b]? = some (.cells c' el (0, 0)) ∧ reps (baseCtx w1 (newB B w w1)) X' c'.toList ∧ Rep (baseCtx w1 (newB B w w1)) d u := by
    intro hres
    obtain ⟨l, vs, h3, h4, h5⟩ := resK_run htt h2 _ _ hres
    rw [seeD_eq] at h3
    obtain ⟨X1, h6, h7⟩ := obAt_spec h3
    rw [seeD_eq, seeL_eq] at h7
    have hσ : σ1 0 = b := by
      obtain ⟨_, _, hg⟩ := h2.ghost ([0], 1) (.loc 0 0) _ ⟨rfl, rfl, rfl⟩
      cases hg with
      | loc hh =>
        obtain ⟨_, _, hh⟩ := hh
        simp at hh
        exact hh.symm
    obtain ⟨_, c1, h8, h9, h10⟩ := h2.heap.cells 0 el X1 h6
    rw [hσ] at h8
    have hend := ob_end h2 h6 hσ fun k hk => (hB k hk).1
    refine ⟨h2.defers, _, results_at h5, _, _, _, c1, h7, rfl, ⟨h2.heap.kept.os, h2.heap.kept.tape, h2.heap.kept.output, h2.heap.kept.size, fun k hk hne => h2.heap.kept.block k hk hne, h2.heap.kept.drawn⟩, h8, ⟨by simp [h9], fun j d u hd hu => ?_⟩, hend 6 _ _ (oneD_rep h4)⟩
    rw [List.getElem?_map] at hd
    cases hq : X1[j]? with
    | none => rw [hq] at hd; cases hd
    | some y =>
      rw [hq] at hd
      simp only [Option.map_some, Option.some.injEq] at hd
      subst hd
      exact hend 6 _ _ (h10 j y u hq (by simpa using hu))
  cases x with
  | normal => exact fin h1
  | ret => exact fin h1
  | exit i => exact h1.elim

theorem CallVC.ob {el : TypeId} {X rest : List D} {Q : D → List D → Prop} {i : Nat} (hf : Ob P f el X rest Q) (hid : lget s.H i = some (.cells el X)) (hX : X.all (cutOk 6 0) = true) (hcut : rest.all (cutOk 6 0) = true)
    (h : ∀ d X', Q d X' → K d ⟨s.F, (i, .cells el X') :: s.H, s.nx, s.G⟩) : CallVC P false f (.loc i 0 :: rest) s K := by
  refine ⟨hf.1, fun E σ τ a w args0 hs hr => ?_⟩
  obtain ⟨_, c, hblk, hcs, hcr⟩ := hs.heap.cells i el X hid
  have hown : owned s.H σ τ i (σ i) := .inl ⟨_, _, hid, rfl⟩
  have hbase : ∀ d v, cutOk 6 0 d = true → Rep (ctxOf E s.H s.nx σ τ w) d v → Rep (baseCtx w (ctxOf E s.H s.nx σ τ w).ok) d v := fun d v hd hv =>
    (cut_rep 6 d _ v hd hv).mono ⟨fun _ _ _ h => h, fun _ h => h, fun _ _ _ h => absurd h.1 (Nat.not_lt_zero _), fun _ _ h => absurd h.1 (Nat.not_lt_zero _), fun _ _ _ h => absurd h.1 (Nat.not_lt_zero _)⟩
  match args0, hr with
  | [], hr => have := hr.1; simp at this
  | v0 :: args', hr =>
  have hv0 : v0 = .pointer (some ⟨σ i, 0, none⟩) := by
    have := hr.2 0 (.loc i 0) v0 rfl rfl
    cases this with
    | loc hh => exact hh.2
  subst hv0
  refine (hf.2 w (ctxOf E s.H s.nx σ τ w).ok (σ i) c args' (fun k hk => ⟨hk.2.1, fun he => hk.2.2 i (he ▸ hown)⟩) hblk ⟨by simpa using hcs, fun j d u hd hu => hbase d u (all_at hX hd) (hcr j d u hd (by simpa using hu))⟩
    ⟨by have := hr.1; simpa using this, fun j d u hd hu => hbase d u (all_at hcut hd) (hr.2 (j + 1) d u (by simpa using hd) (by simpa using hu))⟩).mono fun e w' hh => ?_
  obtain ⟨d, v, X', c', hq, rfl, ht, hblk', hX', hd⟩ := hh
  have hlt : σ i < w.heap.size := (Array.getElem?_eq_some_iff.1 hblk).1
  have hlt' : σ i < w'.heap.size := Nat.lt_of_lt_of_le hlt ht.size
  let w1 : World := { w' with heap := w'.heap.set (σ i) (.cells c el (0, 0)) hlt' }
  have hw1 : ∀ k, k ≠ σ i → w'.heap[k]? = w1.heap[k]? := fun k hk => by
    show _ = (w'.heap.set (σ i) _ hlt')[k]?
    rw [Array.getElem?_set]
    rw [if_neg (fun h => hk h.symm)]
  have hwi : w1.heap[σ i]? = some (.cells c el (0, 0)) := by
    show (w'.heap.set (σ i) _ hlt')[σ i]? = _
    rw [Array.getElem?_set]
    rw [if_pos rfl]
  have hsz1 : w'.heap.size = w1.heap.size := by show _ = (w'.heap.set (σ i) _ hlt').size; simp
  have hbel : Under w.heap.size w w1 := ⟨⟨ht.os, ht.tape, ht.output, by rw [← hsz1]; exact ht.size, fun k hk => by
    by_cases hki : k = σ i
    · subst hki; rw [hwi, hblk]
    · rw [← hw1 k hki]; exact ht.block k hk hki⟩, ht.drawn⟩
  have hs1 := below_state hs hbel
  have hle : (baseCtx w' (newB (ctxOf E s.H s.nx σ τ w).ok w w')).Le (ctxOf E s.H s.nx σ τ w1) := by
    have hok : ∀ k, newB (ctxOf E s.H s.nx σ τ w).ok w w' k → (ctxOf E s.H s.nx σ τ w1).ok k := by
      intro k hk
      rcases hk with hk | ⟨h1, h2⟩
      · exact ⟨hk.1, Nat.lt_of_lt_of_le hk.2.1 hbel.size, hk.2.2⟩
      · exact ⟨.inr (.inr (Nat.le_trans hs.heap.kept.size h1)), by show k < w1.heap.size; rw [← hsz1]; exact h2, fun id ho => absurd (owned_lt hs.heap ho) (by omega)⟩
    refine ⟨fun k o hk hc => ?_, hok, fun _ _ _ h => h.elim, fun _ _ h => h.elim, fun _ _ _ h => h.elim⟩
    have hne : k ≠ σ i := fun he => (hok k hk).2.2 i (he ▸ hown)
    exact (hw1 k hne).symm.trans hc
  obtain ⟨hs2, hle2⟩ := store_state hs1 hid hblk' (Nat.le_refl _) rfl rfl rfl hsz1 (fun k hk => hw1 k hk) ⟨hX'.1, fun j d u hd hu => (hX'.2 j d u hd hu).mono hle⟩
  exact ⟨d, _, σ, τ, v, h d X' hq, rfl, hs2, (hd.mono hle).mono hle2, fun h => by cases h⟩
end
end Go.Proofs.YtcbpdjikdohegaaGreat.V
namespace Go.Proofs.YtcbpdjikdohegaaGreat.V
open Go.RowKit

def FnN (P : Program) (f : FuncId) (args : List D) (Q : D → Prop) : Prop :=
  hasBody P f ∧ ∀ (w : World) (B : Nat → Prop) (args' : List Value), (∀ b, B b → b < w.heap.size) → reps (baseCtx w B) args args' →
    Calls P f args'.toArray w fun e w' => ∃ d v, Q d ∧ e = .returned v ∧ Under w.heap.size w w' ∧ Rep (baseCtx w' fun b => w.heap.size ≤ b ∧ b < w'.heap.size) d v

theorem FnN.mono {P : Program} {f : FuncId} {args : List D} {Q Q' : D → Prop} (h : FnN P f args Q) (hq : ∀ d, Q d → Q' d) : FnN P f args Q' :=
  ⟨h.1, fun w B args' hB hr => (h.2 w B args' hB hr).mono fun _ _ ⟨d, v, h1, h2⟩ => ⟨d, v, hq d h1, h2⟩⟩
theorem FnN.exact {P : Program} {f : FuncId} {args : List D} {d0 : D} (h : FnN P f args fun d => DLe d d0) : FnN P f args fun d => d = d0 :=
  ⟨h.1, fun w B args' hB hr => (h.2 w B args' hB hr).mono fun _ _ ⟨_, v, h1, h2, h3, h4⟩ => ⟨d0, v, rfl, h2, h3, h1 _ _ h4⟩⟩
theorem FnN.fn {P : Program} {f : FuncId} {args : List D} {Q : D → Prop} (h : FnN P f args Q) : Fn P f args Q :=
  ⟨h.1, fun w B args' hB hr => (h.2 w B args' hB hr).mono fun _ _ ⟨d, v, h1, h2, h3, h4⟩ => ⟨d, v, h1, h2, h3, h4.mono ⟨fun _ _ _ h => h, fun _ hb => .inr hb, fun _ _ _ h => h, fun _ _ h => h, fun _ _ _ h => h⟩⟩⟩
def newAns (s : St) (d : D) (Q : D → Prop) : Prop := match d with
  | .grow id => match lget s.H id with
    | some (.grow α _ e enc L) => (∀ x, (enc x).all (flatD 1) = true) ∧ Q (.rows α e enc L)
    | _ => False
  | d => flatD 4 d = true ∧ Q d

section
variable {P : Program} {tt : TT} {pl : Plans} {E : Env} {s : St} {σ : Nat → Nat} {τ : Nat → Value} {a : Act} {w : World} {K : D → St → Prop} {f : FuncId} {args : List D}

theorem own_rows (hs : HR E s.H s.nx σ τ w) {id : Nat} {α : Type} {el e : Nat} {enc : α → List D} {L : List α} (h : lget s.H id = some (.grow α el e enc L)) (hfl : ∀ x, (enc x).all (flatD 1) = true) (B : Nat → Prop) (hB : ∀ b, E.mine b → b < w.heap.size → B b) :
    Rep (baseCtx w B) (.rows α e enc L) (τ id) := by
  obtain ⟨h1, xs, ⟨hxl, hown⟩, hlen, hrep⟩ := hs.grow id α el e enc L h
  rcases hown with ⟨hv, hn⟩ | ⟨g, cap, cur, hv, _, hg, hcap, hmax, hcs, htk⟩
  · have : L = [] := List.eq_nil_of_length_eq_zero hn
    subst this
    rw [hv]
    exact DLe.nil e enc _ _ .v
  · rw [hv]
    have hgl : g < w.heap.size := (Array.getElem?_eq_some_iff.1 hg).1
    have hbound : ∀ (i j : Nat), i < L.length → j < e → i * e + j < L.length * e := fun i j hi hj => by
      have := Nat.mul_le_mul_right e (show i + 1 ≤ L.length from hi)
      rw [Nat.succ_mul] at this
      omega
    have hcl : L.length * e ≤ cur.size := by rw [hcs]; exact Nat.mul_le_mul_right e hcap
    have hxj : ∀ (j : Nat), j < L.length * e → xs[j]? = cur[j]? := fun j hj => by
      have h7 : cur.toList[j]? = xs[j]? := by rw [← htk, List.getElem?_take, if_pos hj]
      rw [← h7, Array.getElem?_toList]
    refine Rep.rows (C := baseCtx w B) (α := α) (e := e) (enc := enc) (L := L) g 0 (fun i j => (cur[i * e + j]?).getD undef) hcap (fun _ => ⟨rfl, hB g (h1 g (by rw [hv]; rfl)) hgl⟩) hlen (fun i x j d hx hd => ?_) (fun i x j d hx hd => ?_)
    all_goals
      have hi : i < L.length := (List.getElem?_eq_some_iff.1 hx).1
      have hj : j < e := by have := (List.getElem?_eq_some_iff.1 hd).1; rw [hlen i x hx] at this; exact this
      have hb := hbound i j hi hj
      obtain ⟨u, hcj⟩ : ∃ u, cur[i * e + j]? = some u := ⟨_, Array.getElem?_eq_getElem (by omega)⟩
    · show w.cell? ⟨g, 0 + i * e + j, none⟩ = some ((cur[i * e + j]?).getD undef)
      rw [hcj, Nat.zero_add]
      unfold World.cell?
      simp [hg, hcj]
    · rw [hcj]
      exact flat_rep 1 d _ (all_at (hfl x) hd) (hrep i x j d u hx hd (by rw [hxj _ hb, hcj]))

theorem fnN_of_wpc (htt : ttOk P tt) (hb : entersAll P = true) (hm : P.follows .mixedOrders = true) {fn : Func} {c : Code} (hfn : P.funcs[f]? = some fn) (hc : fn.body = some c) (hok : codeOk pl fn.ntmps c = true) {Q : D → Prop}
    (hn : args.length ≤ fn.ntmps) (h : wpc P tt pl c ⟨enumD args 0, [], 0, ([], 0)⟩ fun e s => endK e (resK tt s fn.results.toList fun l => seeD (oneD l) fun d => newAns s d Q)) : FnN P f args Q := by
  refine ⟨⟨fn, hfn, by rw [hc]; rfl⟩, fun w B args' hB hr => ?_⟩
  have hr0 := hr
  let E : Env := ⟨w, B, fun _ => False, fn.ntmps, fun _ _ _ => False⟩
  have hle : (baseCtx w B).Le (ctxOf E [] 0 (fun _ => 0) (fun _ => .slice none 0 0) w) :=
    ⟨fun _ _ _ h => h, (fun b hb => ⟨.inl hb, hB b hb, fun id ho => by rcases ho with ⟨_, _, h, _⟩ | ⟨_, _, _, _, _, h, _⟩ | ⟨_, h, _⟩ <;> cases h⟩), fun _ _ _ h => h.elim, fun _ _ h => h.elim, fun _ _ _ h => h.elim⟩
  have hlen : args'.length ≤ fn.ntmps := by rw [hr.1]; exact hn
  have hs : SR E ⟨enumD args 0, [], 0, ([], 0)⟩ (fun _ => 0) (fun _ => .slice none 0 0) { tmps := args'.toArray ++ Array.replicate (fn.ntmps - args'.toArray.size) undef, defers := [] } w :=
    ⟨⟨⟨rfl, rfl, rfl, Nat.le_refl _, fun _ _ _ => rfl, Nat.le_refl _⟩, fun b hb => ⟨fun h => h, hB b hb⟩, (fun id el l h => by cases h), (fun id α el e enc L h => by cases h), (fun i j b h => by rcases h with ⟨_, _, h, _⟩ | ⟨_, _, _, _, _, h, _⟩ | ⟨_, h, _⟩ <;> cases h), (fun id o h => by cases h), fun _ => ⟨_, _, _, rfl⟩, fun id o h => by cases h⟩,
      rfl, by simp [E]; omega, fun i d hd => (enter_slots hr0 fn.ntmps i d hd).mono hle, fun _ _ _ h => h.elim, Nat.le_refl _⟩
  refine calls_of_wp hfn hc (wp_mono (wpc_sound (E := E) htt hb hm c hok _ _ _ _ _ w h hs) fun e a1 w1 hh => ?_)
  obtain ⟨x, s1, σ1, τ1, rfl, h1, h2⟩ := hh
  have fin : resK tt s1 fn.results.toList (fun l => seeD (oneD l) fun d => newAns s1 d Q) → a1.defers = [] ∧ ∃ v, (results fn a1.tmps).run P w1 = .ok v w1 ∧ ∃ d u, Q d ∧ Ending.returned v = .returned u ∧ Under w.heap.size w w1 ∧ Rep (baseCtx w1 fun b => w.heap.size ≤ b ∧ b < w1.heap.size) d u := by
    intro hres
    obtain ⟨l, vs, h3, h4, h5⟩ := resK_run htt h2 _ _ hres
    rw [seeD_eq] at h3
    have hbel : Under w.heap.size w w1 := ⟨⟨h2.heap.kept.os, h2.heap.kept.tape, h2.heap.kept.output, h2.heap.kept.size, fun k hk => h2.heap.kept.block k hk (fun h => h)⟩, h2.heap.kept.drawn⟩
    have hone := oneD_rep h4
    generalize oneD l = d at *
    unfold newAns at h3
    split at h3
    · rename_i id
      split at h3
      · rename_i α el e enc L hg
        obtain ⟨hfl, hq⟩ := h3
        have hv : oneV vs = τ1 id := by
          cases hone with
          | grow hh => exact hh.2
        refine ⟨h2.defers, _, results_at h5, _, _, hq, rfl, hbel, ?_⟩
        rw [hv]
        exact own_rows (s := s1) h2.heap hg hfl _ fun b hb hbw => ⟨hb.elim (fun h => h.elim) (fun h => h), hbw⟩
      · exact h3.elim
    · exact ⟨h2.defers, _, results_at h5, _, _, h3.2, rfl, hbel, flat_rep 4 _ _ h3.1 hone⟩
  cases x with
  | normal => exact fin h1
  | ret => exact fin h1
  | exit i => exact h1.elim

theorem CallVC.look {g : Bool} {Q : D → Prop} {args0 : List D} (hf : FnN P f args0 Q) (he : args.map (snapD 6 s.H) = args0) (h : ∀ d, Q d → K d s) : CallVC P g f args s K := by
  subst he
  refine ⟨hf.1, fun E σ τ a w args' hs hr => ?_⟩
  have hr' : reps (baseCtx w fun b => ((E.B b ∨ E.K b) ∨ E.w.heap.size ≤ b) ∧ b < w.heap.size) (args.map (snapD 6 s.H)) args' := by
    refine ⟨by simp [hr.1], fun j d u hd hu => ?_⟩
    rw [List.getElem?_map] at hd
    cases hq : args[j]? with
    | none => rw [hq] at hd; cases hd
    | some x =>
      rw [hq] at hd
      simp only [Option.map_some, Option.some.injEq] at hd
      subst hd
      exact snap_rep hs.heap 6 x u (hr.2 j x u hq hu)
  refine (hf.2 w _ args' (fun b hb => hb.2) hr').mono fun e w' hh => ?_
  obtain ⟨d, v, h1, rfl, h3, h4⟩ := hh
  refine ⟨d, s, σ, τ, v, h d h1, rfl, below_state hs h3, h4.mono ⟨fun _ _ _ h => h, fun b hb => ?_, fun _ _ _ h => h.elim, fun _ _ h => h.elim, fun _ _ _ h => h.elim⟩, fun _ => h3.toBelow⟩
  exact ⟨.inr (.inr (Nat.le_trans hs.heap.kept.size hb.1)), hb.2, fun id ho => absurd (owned_lt hs.heap ho) (by have := hb.1; omega)⟩
end
end Go.Proofs.YtcbpdjikdohegaaGreat.V
namespace Go.Proofs.YtcbpdjikdohegaaGreat.V
open Go.RowKit
theorem obOf {f : FuncId} {fn : Func} {c : Code} {el : TypeId} {X rest : List D} {Q : D → List D → Prop} (pl : Plans) (hfn : Tryz.prog.funcs[f]? = some fn) (hc : fn.body = some c) (hok : codeOk pl fn.ntmps c = true) (hn : rest.length + 1 ≤ fn.ntmps)
    (h : wpc Tryz.prog tt pl c ⟨enumD (.loc 0 0 :: rest) 0, [(0, .cells el X)], 1, ([0], 1)⟩ fun e s' => endK e (resK tt s' fn.results.toList fun l => seeD (oneD l) fun d => obAt el s' fun X' => seeD (snapD 6 ((0, .dead) :: s'.H) d) fun d => seeL (X'.map (snapD 6 ((0, .dead) :: s'.H))) fun X' => Q d X')) : Ob Tryz.prog f el X rest Q :=
  ob_of_wpc ttH ebH mxH hfn hc hok hn h
theorem fnNOf {f : FuncId} {fn : Func} {c : Code} {args : List D} {Q : D → Prop} (pl : Plans) (hfn : Tryz.prog.funcs[f]? = some fn) (hc : fn.body = some c) (hok : codeOk pl fn.ntmps c = true) (hn : args.length ≤ fn.ntmps)
    (h : wpc Tryz.prog tt pl c ⟨enumD args 0, [], 0, ([], 0)⟩ fun e s => endK e (resK tt s fn.results.toList fun l => seeD (oneD l) fun d => newAns s d Q)) : FnN Tryz.prog f args Q :=
  fnN_of_wpc ttH ebH mxH hfn hc hok hn h
end Go.Proofs.YtcbpdjikdohegaaGreat.V
namespace Go.Proofs.YtcbpdjikdohegaaGreat.V
open Go.RowKit
abbrev intD (n : Int) : D := .v (.int .i64 n)
abbrev boolD (b : Bool) : D := .v (.bool b)
theorem wrap_next {k n : Nat} (h : k < n) (hn : n ≤ 1000000) : IntKind.i64.wrap ((k : Int) + 1) = ((k + 1 : Nat) : Int) := by
  rw [IntWalk.i64_in _ (by omega)]; omega
theorem nat_toNat (k : Nat) : (k : Int).toNat = k := by omega

def findI {α : Type} (p : α → Bool) (L : List α) : Int := match L.findIdx? p with
  | some i => (i : Int)
  | none => -1
theorem findI_at {α : Type} {p : α → Bool} {L : List α} {k : Nat} {x : α} (hx : L[k]? = some x) (h : p x = true) (hno : ∀ (j : Nat) u, j < k → L[j]? = some u → p u = false) : findI p L = k := by
  unfold findI
  have : L.findIdx? p = some k := by
    rw [List.findIdx?_eq_some_iff_getElem]
    obtain ⟨hk, rfl⟩ := List.getElem?_eq_some_iff.1 hx
    exact ⟨hk, h, fun j hj => by simpa using hno j _ hj (List.getElem?_eq_getElem (by omega))⟩
  rw [this]
theorem findI_none {α : Type} {p : α → Bool} {L : List α} (hno : ∀ (j : Nat) u, j < L.length → L[j]? = some u → p u = false) : findI p L = -1 := by
  unfold findI
  have : L.findIdx? p = none := by
    rw [List.findIdx?_eq_none_iff]
    intro x hx
    obtain ⟨j, hj, rfl⟩ := List.mem_iff_getElem.1 hx
    exact hno j _ hj (List.getElem?_eq_getElem hj)
  rw [this]
theorem no_next {α : Type} {p : α → Bool} {L : List α} {k : Nat} {x : α} (hx : L[k]? = some x) (h : p x = false) (hno : ∀ (j : Nat) u, j < k → L[j]? = some u → p u = false) : ∀ (j : Nat) u, j < k + 1 → L[j]? = some u → p u = false := by
  intro j u hj hu
  rcases Nat.lt_succ_iff_lt_or_eq.1 hj with h1 | rfl
  · exact hno j u h1 hu
  · rw [hx] at hu; injection hu with hu; subst hu; exact h

theorem u32_wrap (n : Int) : IntKind.u32.wrap n = n % 4294967296 := by
  rw [IntKind.wrap]; rfl
theorem Ob.exact {P : Program} {f : FuncId} {el : TypeId} {X rest : List D} {d0 : D} {X0 : List D} (h : Ob P f el X rest fun d X' => DLe d d0 ∧ X' = X0) : Ob P f el X rest fun d X' => d = d0 ∧ X' = X0 :=
  ⟨h.1, fun w B b c args' h1 h2 h3 h4 => (h.2 w B b c args' h1 h2 h3 h4).mono fun _ _ ⟨_, v, _, c', ⟨h5, h6⟩, h7, h8, h9, h10, h11⟩ => ⟨d0, v, X0, c', ⟨rfl, rfl⟩, h7, h8, h9, h6 ▸ h10, h5 _ _ h11⟩⟩
theorem sorted_unique {α : Type} {key : α → Int} : ∀ {l m : List α}, l.Perm m → l.Pairwise (fun x y => key x < key y) → m.Pairwise (fun x y => key x < key y) → l = m
  | [], m, hp, _, _ => (List.Perm.eq_nil hp.symm).symm
  | x :: l, [], hp, _, _ => by have := hp.length_eq; simp at this
  | x :: l, y :: m, hp, hl, hm => by
    rw [List.pairwise_cons] at hl hm
    have hxy : x = y := by
      have hx : x ∈ y :: m := hp.subset List.mem_cons_self
      have hy : y ∈ x :: l := hp.symm.subset List.mem_cons_self
      rcases List.mem_cons.1 hx with h | h
      · exact h
      · rcases List.mem_cons.1 hy with h' | h'
        · exact h'.symm
        · have h1 := hm.1 x h
          have h2 := hl.1 y h'
          omega
    subst hxy
    rw [sorted_unique (List.Perm.cons_inv hp) hl.2 hm.2]
theorem pairwise_get {α : Type} {R : α → α → Prop} {l : List α} : l.Pairwise R ↔ ∀ (i j : Nat) x y, j < i → l[i]? = some x → l[j]? = some y → R y x := by
  rw [List.pairwise_iff_getElem]
  constructor
  · intro h i j x y hij hx hy
    obtain ⟨hi, rfl⟩ := List.getElem?_eq_some_iff.1 hx
    obtain ⟨hj, rfl⟩ := List.getElem?_eq_some_iff.1 hy
    exact h j i hj hi hij
  · intro h i j hi hj hij
    exact h j i _ _ hij (List.getElem?_eq_getElem hj) (List.getElem?_eq_getElem hi)
theorem map_get {α β : Type} {f : α → β} {l : List α} {i : Nat} {y : β} (h : (l.map f)[i]? = some y) : ∃ x, l[i]? = some x ∧ f x = y := by
  rw [List.getElem?_map] at h
  cases hq : l[i]? with
  | none => rw [hq] at h; cases h
  | some x => rw [hq] at h; simp only [Option.map_some, Option.some.injEq] at h; exact ⟨x, rfl, h⟩
theorem sub_list {α : Type} {p : α → Prop} (L : List α) (h : ∀ x, x ∈ L → p x) : ∃ M : List {x // p x}, M.map Subtype.val = L := by
  induction L with
  | nil => exact ⟨[], rfl⟩
  | cons x r ih =>
    obtain ⟨M, hM⟩ := ih fun y hy => h y (List.mem_cons_of_mem _ hy)
    exact ⟨⟨x, h x List.mem_cons_self⟩ :: M, by simp [hM]⟩

theorem sorted_one {α : Type} {key : α → Int} {S M : List α} (hS : S.Pairwise fun x y => key x < key y) (hp : M.Perm S) (h : ∀ (i j : Nat) x y, i < j → M[i]? = some x → M[j]? = some y → key x ≤ key y) : M = S := by
  refine sorted_unique hp (pairwise_get.2 fun i j x y hij hx hy => ?_) hS
  have h1 := h j i y x hij hy hx
  have h2 : S.Pairwise fun x y => key x ≠ key y := hS.imp (fun h => by omega)
  have h3 : M.Pairwise fun x y => key x ≠ key y := (List.Perm.pairwise_iff (fun {a b} h => Ne.symm h) hp).2 h2
  have h4 := pairwise_get.1 h3 i j x y hij hx hy
  omega

end Go.Proofs.YtcbpdjikdohegaaGreat.V
namespace Go.Proofs.YtcbpdjikdohegaaGreat.V
open Go.RowKit

abbrev ME := Int × Int × Nat
def meV (x : ME) : MapEntry := { key := .int .i64 x.1, val := .int .i64 x.2.1, born := x.2.2 }
def imapO (L : List ME) (c : Nat) : Obj := .map (L.map meV).toArray c
def imap (L : List ME) (c : Nat) : OA := .ob (.map (L.map meV).toArray c)
def mfind (k : Int) : List ME → Option Int
  | [] => none
  | x :: r => if k = x.1 then some x.2.1 else mfind k r
def mset (k v : Int) : List ME → List ME
  | [] => []
  | x :: r => if k = x.1 then (k, v, x.2.2) :: r else x :: mset k v r
def mdel (k : Int) : List ME → List ME
  | [] => []
  | x :: r => if k = x.1 then r else x :: mdel k r
def mloc (k : Int) : List ME → Nat → Option (Nat × Value)
  | [], _ => none
  | x :: r, i => if k = x.1 then some (i, .int .i64 x.2.1) else mloc k r (i + 1)

theorem findNow_mloc (k : Int) : ∀ (L : List ME) (i : Nat), Instr.findNow (.int .i64) (.int .i64 k) (L.map meV) i = some (mloc k L i)
  | [], _ => rfl
  | x :: r, i => by
    rw [List.map_cons, Instr.findNow, mloc]
    by_cases h : k = x.1
    · have : Instr.sameNow (.int .i64) (.int .i64 k) (meV x).key = some true := by subst h; simp [Instr.sameNow, meV]
      rw [this, if_pos h]; rfl
    · have : Instr.sameNow (.int .i64) (.int .i64 k) (meV x).key = some false := by simp [Instr.sameNow, meV, h]
      rw [this, if_neg h]; exact findNow_mloc k r (i + 1)
theorem mloc_none {k : Int} : ∀ {L : List ME} {i : Nat}, mloc k L i = none → mfind k L = none ∧ mset k 0 L = L ∧ mdel k L = L
  | [], _, _ => ⟨rfl, rfl, rfl⟩
  | x :: r, i, h => by
    rw [mloc] at h
    by_cases hk : k = x.1
    · rw [if_pos hk] at h; cases h
    · rw [if_neg hk] at h
      obtain ⟨h1, h2, h3⟩ := mloc_none h
      simp only [mfind, mset, mdel, if_neg hk, h1, h2, h3, and_self]
theorem mloc_some {k : Int} : ∀ {L : List ME} {i j : Nat} {u : Value}, mloc k L i = some (j, u) → ∃ n x, j = i + n ∧ L[n]? = some x ∧ x.1 = k ∧ u = .int .i64 x.2.1 ∧ mfind k L = some x.2.1 ∧ (∀ v, mset k v L = L.modify n fun e => (k, v, e.2.2)) ∧ mdel k L = L.eraseIdx n
  | [], _, _, _, h => by cases h
  | x :: r, i, j, u, h => by
    rw [mloc] at h
    by_cases hk : k = x.1
    · rw [if_pos hk] at h
      injection h with h; injection h with h1 h2; subst h1 h2
      exact ⟨0, x, rfl, rfl, hk.symm, rfl, by simp [mfind, hk], fun v => by simp [mset, hk], by simp [mdel, hk]⟩
    · rw [if_neg hk] at h
      obtain ⟨n, y, h1, h2, h3, h4, h5, h6, h7⟩ := mloc_some h
      exact ⟨n + 1, y, by omega, by simpa using h2, h3, h4, by simp [mfind, hk, h5], fun v => by simp [mset, hk, h6], by simp [mdel, hk, h7]⟩

theorem map_erase {α β : Type} (f : α → β) : ∀ (L : List α) (j : Nat), (L.map f).eraseIdx j = (L.eraseIdx j).map f
  | [], _ => rfl
  | _ :: _, 0 => rfl
  | x :: r, j + 1 => by simp [List.eraseIdx_cons_succ, map_erase f r j]

def imapOk (P : Program) (t : TypeId) : Bool := match P.underlying t with
  | some (.map k e) => match P.underlying k, P.underlying e, P.info? e with
    | some (.int .i64), some (.int .i64), some i => match i.zero with
      | some (.int .i64 z) => decide (z = 0)
      | _ => false
    | _, _, _ => false
  | _ => false
theorem imapOk_spec {P : Program} {t : TypeId} (h : imapOk P t = true) : ∃ k e i, P.underlying t = some (.map k e) ∧ P.underlying k = some (.int .i64) ∧ P.underlying e = some (.int .i64) ∧ P.info? e = some i ∧ i.zero = some (.int .i64 0) := by
  unfold imapOk at h
  split at h
  · rename_i k e h1
    split at h
    · rename_i i h2 h3 h4
      split at h
      · rename_i z h5
        have := of_decide_eq_true h
        subst this
        exact ⟨k, e, i, h1, h2, h3, h4, h5⟩
      · cases h
    · cases h
  · cases h

section
variable {P : Program} {tt : TT} {E : Env} {s : St} {σ : Nat → Nat} {τ : Nat → Value} {a : Act} {w : World}

theorem owned_newObj {H : List (Nat × LO)} {nx b j : Nat} {o : Obj} {n : Nat} (h : owned ((nx, .obj (.ob o)) :: H) (setN σ nx b) τ j n) : (j = nx ∧ n = b) ∨ (j ≠ nx ∧ owned H σ τ j n) := by
  by_cases hj : j = nx
  · subst hj
    left
    rcases h with ⟨el', l', h1, rfl⟩ | ⟨α, el', e, enc, L, h1, h2⟩ | ⟨o, h1, h2⟩
    · rw [lget_same] at h1; cases h1
    · rw [lget_same] at h1; cases h1
    · rw [lget_same] at h1
      injection h1 with h1; injection h1 with h1; subst h1
      exact ⟨rfl, by simpa [setN, OA.foot] using h2⟩
  · right
    refine ⟨hj, ?_⟩
    rcases h with ⟨el', l', h1, rfl⟩ | ⟨α, el', e, enc, L, h1, h2⟩ | ⟨o, h1, h2⟩
    · rw [lget_ne _ _ hj] at h1
      exact .inl ⟨el', l', h1, by simp [setN, hj]⟩
    · rw [lget_ne _ _ hj] at h1
      exact .inr (.inl ⟨α, el', e, enc, L, h1, h2⟩)
    · rw [lget_ne _ _ hj] at h1
      exact .inr (.inr ⟨o, h1, by simpa [setN, hj] using h2⟩)

theorem allocObj_le (hs : HR E s.H s.nx σ τ w) (o : Obj) : (ctxOf E s.H s.nx σ τ w).Le (ctxOf E ((s.nx, .obj (.ob o)) :: s.H) (s.nx + 1) (setN σ s.nx w.heap.size) τ (w.alloc o)) := by
  refine ⟨fun b of hb hc => ?_, fun b hb => ?_, fun id off v hv => ?_, fun id v hv => ?_, fun id off v hv => ?_⟩
  · exact (Below.heap_alloc w o b hb.2.1).trans hc
  · obtain ⟨h1, h2, h3⟩ := hb
    refine ⟨h1, by simp; omega, fun id ho => ?_⟩
    rcases owned_newObj ho with ⟨_, rfl⟩ | ⟨_, ho⟩
    · exact absurd h2 (Nat.lt_irrefl _)
    · exact h3 id ho
  · obtain ⟨h1, rfl⟩ := hv
    exact ⟨Nat.lt_succ_of_lt h1, by simp [setN, show id ≠ s.nx by omega]⟩
  · exact ⟨Nat.lt_succ_of_lt hv.1, hv.2⟩
  · exact ⟨Nat.lt_succ_of_lt hv.1, hv.2⟩

theorem allocObj_state (hs : SR E s σ τ a w) (o : Obj) : SR E ⟨s.F, (s.nx, .obj (.ob o)) :: s.H, s.nx + 1, s.G⟩ (setN σ s.nx w.heap.size) τ a (w.alloc o) := by
  have hle := allocObj_le hs.heap o
  refine ⟨⟨hs.heap.kept.alloc _, hs.heap.few, fun id el' l' h => ?_, fun id α el' e enc L h => ?_, fun i j b h1 h2 => ?_, fun id o h => ?_, hs.heap.slices, fun id o' h => ?_⟩, hs.defers, hs.size, fun i d h => (hs.slots i d h).mono hle, hs.ghost_le rfl hle, Nat.le_succ_of_le hs.room⟩
  · have hid : id ≠ s.nx := by rintro rfl; rw [lget_same] at h; cases h
    rw [lget_ne _ _ hid] at h
    obtain ⟨h1, c', h2, h3, h4⟩ := hs.heap.cells id el' l' h
    have hlt : σ id < w.heap.size := (Array.getElem?_eq_some_iff.1 h2).1
    refine ⟨by simpa [setN, hid] using h1, c', ?_, h3, fun j d u hd hu => (h4 j d u hd hu).mono hle⟩
    simp only [setN, hid, if_false]
    rw [Below.heap_alloc w _ _ hlt]; exact h2
  · have hid : id ≠ s.nx := by rintro rfl; rw [lget_same] at h; cases h
    rw [lget_ne _ _ hid] at h
    obtain ⟨h1, xs, h2, h3, h4⟩ := hs.heap.grow id α el' e enc L h
    exact ⟨h1, xs, h2.alloc _, h3, fun i x j d u hx hd hu => (h4 i x j d u hx hd hu).mono hle.still⟩
  · rcases owned_newObj h1 with ⟨rfl, rfl⟩ | ⟨g1, h1⟩ <;> rcases owned_newObj h2 with ⟨rfl, e2⟩ | ⟨g2, h2⟩
    · rfl
    · exact absurd (owned_lt hs.heap h2) (Nat.lt_irrefl _)
    · subst e2; exact absurd (owned_lt hs.heap h1) (Nat.lt_irrefl _)
    · exact hs.heap.apart i j b h1 h2
  · by_cases hid : id = s.nx
    · subst hid; exact Nat.lt_succ_self _
    · rw [lget_ne _ _ hid] at h
      exact Nat.lt_succ_of_lt (hs.heap.below id o h)
  · by_cases hid : id = s.nx
    · subst hid
      rw [lget_same] at h
      injection h with h; injection h with h; subst h
      have e0 : setN σ s.nx w.heap.size s.nx = w.heap.size := by simp [setN]
      rw [e0]
      refine ⟨fun k hk => ?_, ?_⟩
      · have hk : k = w.heap.size := hk
        subst hk
        exact ⟨.inr hs.heap.kept.size, by simp⟩
      · show (w.heap.push _)[w.heap.size]? = _
        simp
    · rw [lget_ne _ _ hid] at h
      obtain ⟨h1, h2⟩ := hs.heap.obj id o' h
      have e0 : setN σ s.nx w.heap.size id = σ id := by simp [setN, hid]
      rw [e0]
      exact ⟨fun k hk => ⟨(h1 k hk).1, by have := (h1 k hk).2; simp; omega⟩, OA.at_mono h2 (fun k hk => Below.heap_alloc w _ _ (h1 k hk).2) (by show w.heap.size ≤ (w.alloc _).heap.size; simp) hle.still⟩

theorem owned_setObj {H : List (Nat × LO)} {id : Nat} {o o' : Obj} {j n : Nat} (hid : lget H id = some (.obj (.ob o))) (h : owned ((id, .obj (.ob o')) :: H) σ τ j n) : owned H σ τ j n := by
  by_cases hj : j = id
  · subst hj
    rcases h with ⟨el', l', h1, rfl⟩ | ⟨α, el', e, enc, L, h1, h2⟩ | ⟨o, h1, h2⟩
    · rw [lget_same] at h1; cases h1
    · rw [lget_same] at h1; cases h1
    · rw [lget_same] at h1
      injection h1 with h1; injection h1 with h1; subst h1
      exact .inr (.inr ⟨_, hid, h2⟩)
  · rcases h with ⟨el', l', h1, rfl⟩ | ⟨α, el', e, enc, L, h1, h2⟩ | ⟨o, h1, h2⟩
    rotate_left 2
    · rw [lget_ne _ _ hj] at h1
      exact .inr (.inr ⟨o, h1, h2⟩)
    · rw [lget_ne _ _ hj] at h1
      exact .inl ⟨el', l', h1, rfl⟩
    · rw [lget_ne _ _ hj] at h1
      exact .inr (.inl ⟨α, el', e, enc, L, h1, h2⟩)

theorem setObj_state (hs : SR E s σ τ a w) {id : Nat} {o : Obj} (hid : lget s.H id = some (.obj (.ob o))) (o' : Obj) :
    SR E ⟨s.F, (id, .obj (.ob o')) :: s.H, s.nx, s.G⟩ σ τ a { w with heap := w.heap.setIfInBounds (σ id) o' } := by
  have hown : owned s.H σ τ id (σ id) := .inr (.inr ⟨_, hid, rfl⟩)
  obtain ⟨hmine, hblk⟩ := hs.heap.obj id _ hid
  have hmine := (hmine _ rfl).1
  have hblk : w.heap[σ id]? = some o := hblk
  have hlt : σ id < w.heap.size := (Array.getElem?_eq_some_iff.1 hblk).1
  have hk : ∀ k, k ≠ σ id → (w.heap.setIfInBounds (σ id) o')[k]? = w.heap[k]? := fun k hk => by
    rw [Array.getElem?_setIfInBounds, if_neg (fun h => hk h.symm)]
  have hsz : (w.heap.setIfInBounds (σ id) o').size = w.heap.size := by simp
  have hle : (ctxOf E s.H s.nx σ τ w).Le (ctxOf E ((id, .obj (.ob o')) :: s.H) s.nx σ τ { w with heap := w.heap.setIfInBounds (σ id) o' }) := by
    refine ⟨fun b of hb hc => ?_, fun b hb => ?_, fun _ _ _ hv => hv, fun _ _ hv => hv, fun _ _ _ hv => hv⟩
    · have hne : b ≠ σ id := by rintro rfl; exact hb.2.2 id hown
      exact (hk b hne).trans hc
    · exact ⟨hb.1, by show b < (w.heap.setIfInBounds (σ id) o').size; rw [hsz]; exact hb.2.1, fun j ho => hb.2.2 j (owned_setObj hid ho)⟩
  refine ⟨⟨⟨hs.heap.kept.os, hs.heap.kept.tape, hs.heap.kept.output, by show _ ≤ (w.heap.setIfInBounds (σ id) o').size; rw [hsz]; exact hs.heap.kept.size, fun k hk1 hn => ?_, hs.heap.kept.drawn⟩, hs.heap.few, fun j el' l2 h => ?_, fun j α el' e enc L h => ?_, fun i j b h1 h2 => hs.heap.apart i j b (owned_setObj hid h1) (owned_setObj hid h2), fun j o h => ?_, hs.heap.slices, fun j o2 h => ?_⟩, hs.defers, hs.size, fun i d h => (hs.slots i d h).mono hle, hs.ghost_le rfl hle, hs.room⟩
  · have hne : k ≠ σ id := by
      rintro rfl
      rcases hmine with hm | hm
      · exact hn hm
      · omega
    exact (hk k hne).trans (hs.heap.kept.block k hk1 hn)
  · have hj : j ≠ id := by rintro rfl; rw [lget_same] at h; cases h
    rw [lget_ne _ _ hj] at h
    obtain ⟨h1, c, h2, h3, h4⟩ := hs.heap.cells j el' l2 h
    have hne : σ j ≠ σ id := fun he => hj (hs.heap.apart j id (σ j) (.inl ⟨_, _, h, rfl⟩) (he ▸ hown))
    exact ⟨h1, c, (hk _ hne).trans h2, h3, fun j d u hd hu => (h4 j d u hd hu).mono hle⟩
  · have hj : j ≠ id := by rintro rfl; rw [lget_same] at h; cases h
    rw [lget_ne _ _ hj] at h
    obtain ⟨h1, xs, h2, h3, h4⟩ := hs.heap.grow j α el' e enc L h
    refine ⟨h1, xs, ?_, h3, fun i x j d u hx hd hu => (h4 i x j d u hx hd hu).mono hle.still⟩
    obtain ⟨h5, h6⟩ := h2
    refine ⟨h5, ?_⟩
    rcases h6 with h6 | ⟨g, cap, cur, hv, q1, q2, q3⟩
    · exact .inl h6
    · have hne : g ≠ σ id := fun he => hj (hs.heap.apart j id g (.inr (.inl ⟨_, _, _, _, _, h, by rw [hv]; rfl⟩)) (he ▸ hown))
      exact .inr ⟨g, cap, cur, hv, q1, (hk g hne).trans q2, q3⟩
  · by_cases hj : j = id
    · subst hj; exact hs.heap.below j _ hid
    · rw [lget_ne _ _ hj] at h; exact hs.heap.below j o h
  · by_cases hj : j = id
    · subst hj
      rw [lget_same] at h
      injection h with h; injection h with h; subst h
      refine ⟨fun k hk => ?_, ?_⟩
      · have hk : k = σ j := hk
        subst hk
        exact ⟨hmine, by show σ j < (w.heap.setIfInBounds (σ j) _).size; rw [hsz]; exact hlt⟩
      · show (w.heap.setIfInBounds (σ j) _)[σ j]? = _
        simp [hlt]
    · rw [lget_ne _ _ hj] at h
      obtain ⟨h1, h2⟩ := hs.heap.obj j o2 h
      exact ⟨fun k hkf => ⟨(h1 k hkf).1, by show k < (w.heap.setIfInBounds (σ id) _).size; rw [hsz]; exact (h1 k hkf).2⟩, OA.at_mono h2 (fun k hkf => hk k fun he => hj (hs.heap.apart j id k (.inr (.inr ⟨_, h, hkf⟩)) (he ▸ hown))) (Nat.le_of_eq hsz.symm) hle.still⟩

theorem op_makeMap {g : Bool} {o : Oper} {t : TypeId} (ho : o.op = .makeMap t none) {K : D → St → Prop} (h : K (.mapr s.nx) ⟨s.F, (s.nx, .obj (imap [] 0)) :: s.H, s.nx + 1, s.G⟩) : OpVC P g o s K := by
  intro E σ τ a w hs next Q hn
  unfold Oper.wp
  have hrun : (execOp a.eval o).run P w = .ok (.value (.map (some w.heap.size))) (w.alloc (.map #[] 0)) := by
    simp only [execOp, ho, Option.map_none]
    rfl
  rw [hrun]
  refine hn _ _ _ _ _ _ h (allocObj_state hs _) (.mapr ⟨Nat.lt_succ_self _, ?_⟩) (fun _ => (Below.refl _ _).alloc (Nat.le_refl _) _)
  simp [setN]

theorem mapr_val {C : Ctx} {id : Nat} {v : Value} (h : Rep C (.mapr id) v) : ∃ b, v = .map (some b) ∧ C.loc id 0 (.pointer (some ⟨b, 0, none⟩)) := by
  cases h with
  | mapr hl => exact ⟨_, rfl, hl⟩

theorem op_lookup {g : Bool} {o : Oper} {t : TypeId} {x k : Operand} {id : Nat} {n : Int} {L : List ME} {c : Nat} (ho : o.op = .lookup t x k true) (hm : imapOk P t = true) (hx : evD s x = .mapr id) (hk : evD s k = .v (.int .i64 n)) (hid : lget s.H id = some (.obj (imap L c))) {K : D → St → Prop}
    (h : K (.tup [.v (.int .i64 ((mfind n L).getD 0)), .v (.bool (mfind n L).isSome)]) s) : OpVC P g o s K := by
  intro E σ τ a w hs next Q hn
  obtain ⟨kt, e, i, u1, u2, u3, u4, u5⟩ := imapOk_spec hm
  have hxv := evD_rep hs x
  rw [hx] at hxv
  obtain ⟨b, hv, hl⟩ := mapr_val hxv
  have hkv := evD_rep hs k
  rw [hk] at hkv
  have hkv := rep_v hkv
  obtain ⟨_, hl⟩ := hl
  injection hl with hl; injection hl with hl; injection hl with hl
  obtain ⟨_, hob⟩ := hs.heap.obj id _ hid
  rw [← hl] at hob
  unfold Oper.wp
  have hz : ∀ w, (zeroValue e).run P w = .ok (.int .i64 0) w := fun w => by simp [zeroValue, typeInfo, u4, u5]
  have hrun : (execOp a.eval o).run P w = .ok (.value (.tuple #[.int .i64 ((mfind n L).getD 0), .bool (mfind n L).isSome])) w := by
    have hob' : w.heap[b]? = some (.map (L.map meV).toArray c) := hob
    have hf := findNow_mloc n L 0
    simp only [execOp, ho, Instr.lookup, Sem.run_bind, run_und u1, Result.andThen_ok, hv, hkv, getObj, Sem.run, hob', MapKept.run_checkKey u2 (show MapKept.IsKey (.int .i64) (.int .i64 n) from rfl), Sem.run_pure, List.toList_toArray, MapKept.run_findKey u2 hf]
    cases hq : mloc n L 0 with
    | none =>
      obtain ⟨h1, _, _⟩ := mloc_none hq
      simp [hz, h1]
    | some r =>
      obtain ⟨j, u⟩ := r
      obtain ⟨_, y, _, _, _, rfl, h2, _⟩ := mloc_some hq
      simp [h2]
  rw [hrun]
  refine hn _ _ _ _ _ _ h hs ?_ (fun _ => Below.refl _ _)
  refine .tup rfl fun j d u hd hu => ?_
  match j, hd, hu with
  | 0, hd, hu => injection hd with hd; injection hu with hu; subst hd hu; exact .v
  | 1, hd, hu => injection hd with hd; injection hu with hu; subst hd hu; exact .v
  | _ + 2, hd, _ => simp at hd

theorem op_mapUpdate {o : Oper} {t : TypeId} {x k v : Operand} {id : Nat} {n m : Int} {L : List ME} {c : Nat} (ho : o.op = .mapUpdate t x k v) (hm : imapOk P t = true) (hx : evD s x = .mapr id) (hk : evD s k = .v (.int .i64 n)) (hval : evD s v = .v (.int .i64 m)) (hid : lget s.H id = some (.obj (imap L c))) {K : D → St → Prop}
    (h0 : mfind n L = none → K (.v undef) ⟨s.F, (id, .obj (imap (L ++ [(n, m, c)]) (c + 1))) :: s.H, s.nx, s.G⟩)
    (h1 : mfind n L ≠ none → K (.v undef) ⟨s.F, (id, .obj (imap (mset n m L) c)) :: s.H, s.nx, s.G⟩) : OpVC P false o s K := by
  intro E σ τ a w hs next Q hn
  obtain ⟨kt, e, i, u1, u2, u3, u4, u5⟩ := imapOk_spec hm
  have hxv := evD_rep hs x
  rw [hx] at hxv
  obtain ⟨b, hv, hl⟩ := mapr_val hxv
  have hkv := evD_rep hs k
  rw [hk] at hkv
  have hkv := rep_v hkv
  have hmv := evD_rep hs v
  rw [hval] at hmv
  have hmv := rep_v hmv
  obtain ⟨_, hl⟩ := hl
  injection hl with hl; injection hl with hl; injection hl with hl
  obtain ⟨_, hob⟩ := hs.heap.obj id _ hid
  rw [← hl] at hob
  unfold Oper.wp
  have hob' : w.heap[b]? = some (.map (L.map meV).toArray c) := hob
  have hf := findNow_mloc n L 0
  cases hq : mloc n L 0 with
  | none =>
    obtain ⟨g1, _, _⟩ := mloc_none hq
    rw [hq] at hf
    have hrun : (execOp a.eval o).run P w = .ok .skip { w with heap := w.heap.setIfInBounds (σ id) (imapO (L ++ [(n, m, c)]) (c + 1)) } := by
      rw [← hl]
      simp only [execOp, ho, Instr.mapUpdate, Sem.run_bind, run_und u1, Result.andThen_ok, hv, hkv, hmv, getObj, Sem.run, hob', MapKept.run_checkKey u2 (show MapKept.IsKey (.int .i64) (.int .i64 n) from rfl), Sem.run_pure, List.toList_toArray, MapKept.run_findKey u2 hf, MapKept.run_setObj_map _ hob']
      simp [imapO, meV]
    rw [hrun]
    exact hn _ _ _ _ _ _ (h0 g1) (setObj_state hs hid _) .v (fun h => by cases h)
  | some r =>
    obtain ⟨j, u⟩ := r
    obtain ⟨j', y, g1, g2, g3, rfl, g4, g5, _⟩ := mloc_some hq
    rw [hq] at hf
    obtain rfl : j = j' := by omega
    have hkeep : (Instr.keyThatStays ((((L.map meV).toArray[j]?).map (·.key)).getD (.int .i64 n)) (.int .i64 n)).run P w = .ok (.int .i64 n) w := by
      have : Instr.sameBits 10000 ((((L.map meV).toArray[j]?).map (·.key)).getD (.int .i64 n)) (.int .i64 n) = true := by
        simp [g2, meV, g3, Instr.sameBits]
      simp only [Instr.keyThatStays, this, if_true, Sem.run_pure]
    have hrun : (execOp a.eval o).run P w = .ok .skip { w with heap := w.heap.setIfInBounds (σ id) (imapO (mset n m L) c) } := by
      rw [← hl]
      simp only [execOp, ho, Instr.mapUpdate, Sem.run_bind, run_und u1, Result.andThen_ok, hv, hkv, hmv, getObj, Sem.run, hob', MapKept.run_checkKey u2 (show MapKept.IsKey (.int .i64) (.int .i64 n) from rfl), Sem.run_pure, List.toList_toArray, MapKept.run_findKey u2 hf, hkeep, MapKept.run_setObj_map _ hob']
      have : imapO (mset n m L) c = .map ((L.map meV).toArray.modify j fun e => { key := .int .i64 n, val := .int .i64 m, born := e.born }) c := by
        unfold imapO
        congr 1
        rw [g5]
        apply Array.ext'
        simp only [Array.toList_modify]
        apply List.ext_getElem?
        intro q
        simp only [List.getElem?_map, List.getElem?_modify]
        cases L[q]? with
        | none => rfl
        | some z => by_cases hq : j = q <;> simp [hq, meV]
      rw [this]
    rw [hrun]
    exact hn _ _ _ _ _ _ (h1 (by rw [g4]; simp)) (setObj_state hs hid _) .v (fun h => by cases h)

theorem op_delete {o : Oper} {t t2 : TypeId} {x k : Operand} {id : Nat} {n : Int} {L : List ME} {c : Nat} (ho : o.op = .call { callee := .builtin .delete, args := #[x, k], argTypes := #[t, t2] }) (hm : imapOk P t = true) (hx : evD s x = .mapr id) (hk : evD s k = .v (.int .i64 n)) (hid : lget s.H id = some (.obj (imap L c))) {K : D → St → Prop}
    (h : K (.v (.tuple #[])) ⟨s.F, (id, .obj (imap (mdel n L) c)) :: s.H, s.nx, s.G⟩) : OpVC P false o s K := by
  intro E σ τ a w hs next Q hn
  obtain ⟨kt, e, i, u1, u2, u3, u4, u5⟩ := imapOk_spec hm
  have hxv := evD_rep hs x
  rw [hx] at hxv
  obtain ⟨b, hv, hl⟩ := mapr_val hxv
  have hkv := evD_rep hs k
  rw [hk] at hkv
  have hkv := rep_v hkv
  obtain ⟨_, hl⟩ := hl
  injection hl with hl; injection hl with hl; injection hl with hl
  obtain ⟨_, hob⟩ := hs.heap.obj id _ hid
  rw [← hl] at hob
  unfold Oper.wp
  have hob' : w.heap[b]? = some (.map (L.map meV).toArray c) := hob
  have hf := findNow_mloc n L 0
  have hrun : (execOp a.eval o).run P w = .ok (.value (.tuple #[])) { w with heap := w.heap.setIfInBounds (σ id) (imapO (mdel n L) c) } := by
    rw [← hl]
    cases hq : mloc n L 0 with
    | none =>
      obtain ⟨_, _, g1⟩ := mloc_none hq
      rw [hq] at hf
      simp [execOp, ho, resolve, invoke, builtin, Builtin.delete_, run_und u1, hv, hkv, getObj, Sem.run, hob', MapKept.run_checkKey u2 (show MapKept.IsKey (.int .i64) (.int .i64 n) from rfl), MapKept.run_findKey u2 hf, MapKept.run_setObj_map _ hob', g1, imapO]
    | some r =>
      obtain ⟨j, u⟩ := r
      obtain ⟨j', y, g1, g2, g3, rfl, g4, _, g5⟩ := mloc_some hq
      rw [hq] at hf
      obtain rfl : j = j' := by omega
      simp [execOp, ho, resolve, invoke, builtin, Builtin.delete_, run_und u1, hv, hkv, getObj, Sem.run, hob', MapKept.run_checkKey u2 (show MapKept.IsKey (.int .i64) (.int .i64 n) from rfl), MapKept.run_findKey u2 hf, MapKept.run_setObj_map _ hob', g5, imapO, map_erase]
  rw [hrun]
  exact hn _ _ _ _ _ _ h (setObj_state hs hid _) .v (fun h => by cases h)
end
end Go.Proofs.YtcbpdjikdohegaaGreat.V
namespace Go.Proofs.YtcbpdjikdohegaaGreat.V
open Go.RowKit
section
variable {P : Program} {tt : TT} {pl : Plans} {s : St} {K : D → St → Prop} {f : FuncId} {args : List D}

theorem CallVC.to {m : Nat} (htt : ttOk P tt) (hb : entersAll P = true) (hm : P.follows .mixedOrders = true) {fn : Func} {c : Code} (hfn : P.funcs[f]? = some fn) (hc : fn.body = some c) (hok : codeOk pl fn.ntmps c = true) (hn : args.length ≤ fn.ntmps) (h0 : 0 < fn.ntmps)
    (hG : Nat.ble s.G.2 m = true) (hmx : Nat.ble m s.nx = true) (hF : s.F.all (fun p => cutOk 6 m p.2) = true)
    (h : wpc P tt pl c ⟨enumD args 0, s.H, s.nx, (upto m 0, m)⟩ fun e s' => endK e (resK tt s' fn.results.toList fun l => seeD (oneD l) fun d => ∃ r z d' H' n', Cover r z ⟨(0, d) :: s'.F, s'.H, s'.nx, s'.G⟩ ⟨[(0, d')], H', n', (upto m 0, m)⟩ ∧ K d' ⟨s.F, H', n', s.G⟩)) : CallVC P false f args s K := by
  have hG := Nat.le_of_ble_eq_true hG
  have hmx := Nat.le_of_ble_eq_true hmx
  refine ⟨⟨fn, hfn, by rw [hc]; rfl⟩, fun E σ τ a w args' hs hr => ?_⟩
  let X' : List Nat × Nat → D → Value → Prop := fun G d v => E.X G d v ∨ (G = (upto m 0, m) ∧ (d = .junk ∨ ∃ i, lget s.F i = some d ∧ v = a.tmps.getD i undef))
  let E' : Env := ⟨E.w, E.B, E.K, fn.ntmps, X'⟩
  have hheap : HR E' s.H s.nx σ τ w := ⟨⟨hs.heap.kept.os, hs.heap.kept.tape, hs.heap.kept.output, hs.heap.kept.size, hs.heap.kept.block, hs.heap.kept.drawn⟩, hs.heap.few, hs.heap.cells, hs.heap.grow, hs.heap.apart, hs.heap.below, hs.heap.slices, hs.heap.obj⟩
  have hlen : args'.length ≤ fn.ntmps := by rw [hr.1]; exact hn
  have hget : ∀ (l : List (Nat × D)), l.all (fun p => cutOk 6 m p.2) = true → ∀ i d, lget l i = some d → cutOk 6 m d = true := by
    intro l
    induction l with
    | nil => intro _ i d h; cases h
    | cons p l ih =>
      intro hl i d h
      obtain ⟨k, x⟩ := p
      simp only [List.all_cons, Bool.and_eq_true] at hl
      rw [lget] at h
      split at h
      · injection h with h; subst h; exact hl.1
      · exact ih hl.2 i d h
  have hs' : SR E' ⟨enumD args 0, s.H, s.nx, (upto m 0, m)⟩ σ τ { tmps := args'.toArray ++ Array.replicate (fn.ntmps - args'.toArray.size) undef, defers := [] } w := by
    refine ⟨hheap, rfl, by simp [E']; omega, fun i d hd => enter_slots hr fn.ntmps i d hd, fun G d v hx => ?_, hmx⟩
    rcases hx with hx | ⟨rfl, rfl | ⟨i, hi, rfl⟩⟩
    · obtain ⟨g1, g2, g3⟩ := hs.ghost G d v hx
      refine ⟨fun id h1 h2 => ?_, Nat.le_trans g2 hG, g3⟩
      have h3 := (g1 id h1 h2).1
      exact ⟨Nat.lt_of_lt_of_le h3 hG, (upto_mem _ _ _).2 ⟨Nat.zero_le _, by omega⟩⟩
    · exact ⟨fun id h1 h2 => ⟨h1, h2⟩, Nat.le_refl _, .junk⟩
    · refine ⟨fun id h1 h2 => ⟨h1, h2⟩, Nat.le_refl _, (cut_rep 6 d _ _ (hget _ hF i d hi) (hs.slots i d hi)).mono ⟨fun _ _ _ h => h, fun _ h => h, fun id off v hv => hv, fun id v hv => ⟨⟨hv.1, (upto_mem _ _ _).2 ⟨Nat.zero_le _, by have := hv.1; omega⟩⟩, hv.2⟩, fun id off v hv => ⟨⟨hv.1, (upto_mem _ _ _).2 ⟨Nat.zero_le _, by have := hv.1; omega⟩⟩, hv.2⟩⟩⟩
  refine calls_of_wp hfn hc (wp_mono (wpc_sound (E := E') htt hb hm c hok _ _ _ _ _ w h hs') fun e a1 w1 hh => ?_)
  obtain ⟨x, s1, σ1, τ1, rfl, h1, h2⟩ := hh
  have fin : resK tt s1 fn.results.toList (fun l => seeD (oneD l) fun d => ∃ r z d' H' n', Cover r z ⟨(0, d) :: s1.F, s1.H, s1.nx, s1.G⟩ ⟨[(0, d')], H', n', (upto m 0, m)⟩ ∧ K d' ⟨s.F, H', n', s.G⟩) →
      a1.defers = [] ∧ ∃ v, (results fn a1.tmps).run P w1 = .ok v w1 ∧ ∃ d s' σ' τ' u, K d s' ∧ Ending.returned v = .returned u ∧ SR E s' σ' τ' a w1 ∧ Rep (ctxOf E s'.H s'.nx σ' τ' w1) d u ∧ (false = true → Below w.heap.size w w1) := by
    intro hres
    obtain ⟨l, vs, h3, h4, h5⟩ := resK_run htt h2 _ _ hres
    rw [seeD_eq] at h3
    obtain ⟨r, z, d', H', n', hcov, hk⟩ := h3
    have hput := put_state h2 (oneD_rep h4) (dst := some 0) (fun i hi => by injection hi with hi; subst hi; exact h0)
    have hcv := cover_state hcov hput
    have hd0 := hcv.slots 0 d' (lget_same 0 d' [])
    have hval : (a1.put (some 0) (oneV vs)).tmps.getD 0 undef = oneV vs := by
      have hsz : 0 < a1.tmps.size := by rw [h2.size]; exact h0
      simp [Act.put, Array.getD_eq_getD_getElem?, hsz]
    rw [hval] at hd0
    refine ⟨h2.defers, _, results_at h5, _, _, _, _, _, hk, rfl, ⟨⟨⟨hcv.heap.kept.os, hcv.heap.kept.tape, hcv.heap.kept.output, hcv.heap.kept.size, hcv.heap.kept.block, hcv.heap.kept.drawn⟩, hcv.heap.few, hcv.heap.cells, hcv.heap.grow, hcv.heap.apart, hcv.heap.below, hcv.heap.slices, hcv.heap.obj⟩, hs.defers, hs.size, fun i d hd => ?_, fun G d v hx => ?_, ?_⟩, hd0, fun h => by cases h⟩
    · exact (hcv.ghost _ _ _ (.inr ⟨rfl, .inr ⟨i, hd, rfl⟩⟩)).2.2.mono (Ctx.only_le _ _)
    · obtain ⟨g1, g2, _⟩ := hs.ghost G d v hx
      exact ⟨g1, g2, (hcv.ghost G d v (.inl hx)).2.2⟩
    · show s.G.2 ≤ n'
      have hr' : m ≤ n' := hcv.room
      omega
  cases x with
  | normal => exact fin h1
  | ret => exact fin h1
  | exit i => exact h1.elim
theorem cover_tells {r : List (Nat × Nat)} {z : List Nat} {s t : St} {E : Env} {σ : Nat → Nat} {τ : Nat → Value} {a : Act} {w : World} (h : Cover r z s t) (hs : SR E s σ τ a w) {d d' : D} {v : Value} (ht : tells r z t.nx d d') (hv : Rep (ctxOf E s.H s.nx σ τ w) d v) :
    Rep (ctxOf E t.H t.nx (fun i => σ (renOf r i)) (fun i => bif hasN z i then .slice none 0 0 else τ (renOf r i)) w) d' v := by
  obtain ⟨hF, hH, hG, hm, hr, hz⟩ := h
  have hz' : ∀ i, hasN z i = true → i < t.nx ∧ s.nx ≤ renOf r i := by
    intro i hi
    have := List.all_eq_true.1 hz i (hasN_mem hi)
    simp only [Bool.and_eq_true] at this
    exact ⟨(Nat.blt_eq ▸ this.1 : _ < _), Nat.le_of_ble_eq_true this.2⟩
  -- of places that somebody has, the old rows are meant
  have hnz : ∀ i, renOf r i < s.nx → hasN z i = false := by
    intro i hi
    cases hb : hasN z i with
    | false => rfl
    | true => have := (hz' i hb).2; omega
  have hown : ∀ id b, owned t.H (fun i => σ (renOf r i)) (fun i => bif hasN z i then .slice none 0 0 else τ (renOf r i)) id b → backOf r t.nx (renOf r id) = some id ∧ owned s.H σ τ (renOf r id) b := by
    intro id b ho
    rcases ho with ⟨el, l, h1, rfl⟩ | ⟨α, el, e, enc, L, h1, h2⟩ | ⟨o, h1, h2⟩
    rotate_left 2
    · rcases coverH_spec hH _ _ h1 with ⟨_, he⟩ | ⟨_, h0, o', h3, h4⟩
      · cases he
      · have h5 : o' = .obj o := by cases o' <;> exact h4
        subst h5
        exact ⟨h0, .inr (.inr ⟨_, h3, h2⟩)⟩
    · rcases coverH_spec hH _ _ h1 with ⟨_, he⟩ | ⟨_, h0, o', h3, h4⟩
      · cases he
      · cases o' with
        | cells el' l' => exact ⟨h0, .inl ⟨_, _, h3, rfl⟩⟩
        | _ => simp [LOLe] at h4
    · rcases coverH_spec hH _ _ h1 with ⟨hzi, _⟩ | ⟨hzi, h0, o', h3, h4⟩
      · simp only [hzi, cond_true] at h2
        cases h2
      · have h5 : o' = .grow α el e enc L := by cases o' <;> exact h4
        subst h5
        simp only [hzi, cond_false] at h2
        exact ⟨h0, .inr (.inl ⟨_, _, _, _, _, h3, h2⟩)⟩
  have hle : ((ctxOf E s.H s.nx σ τ w).ren r t.nx).Le (ctxOf E t.H t.nx (fun i => σ (renOf r i)) (fun i => bif hasN z i then .slice none 0 0 else τ (renOf r i)) w) :=
    ⟨fun _ _ _ hc => hc, fun b hb => ⟨hb.1, hb.2.1, fun id ho => hb.2.2 _ (hown id b ho).2⟩, fun id off v hv => ⟨hv.1, hv.2.2⟩, fun id v hv => ⟨hv.1, by simp only [hnz id hv.2.1, cond_false]; exact hv.2.2⟩, fun id off v hv => ⟨hv.1, by simp only [hnz id hv.2.1, cond_false]; exact hv.2.2⟩⟩
  have hzg : ∀ i, hasN z i = true → (ctxOf E t.H t.nx (fun i => σ (renOf r i)) (fun i => bif hasN z i then .slice none 0 0 else τ (renOf r i)) w).grow i (.slice none 0 0) := fun i hi => ⟨(hz' i hi).1, by simp only [hi, cond_true]⟩
  exact tells_rep ht hle hzg hv

theorem CallVC.cov {g : Bool} {args1 : List D} (r : List (Nat × Nat)) (z : List Nat) (s1 : St) (hc : Cover r z s s1) (ha : tellsL r z s1.nx args args1) (h : CallVC P g f args1 s1 K) : CallVC P g f args s K := by
  refine ⟨h.1, fun E σ τ a w args' hs hr => ?_⟩
  obtain ⟨q1, q2⟩ := tellsL_spec ha
  refine h.2 E _ _ a w args' (cover_state hc hs) ⟨by rw [hr.1, q1], fun j d u hd hu => ?_⟩
  obtain ⟨d0, q3, q4⟩ := q2 j d hd
  exact cover_tells hc hs q4 (hr.2 j d0 u q3 hu)
end
end Go.Proofs.YtcbpdjikdohegaaGreat.V
namespace Go.Proofs.YtcbpdjikdohegaaGreat.V
open Go.RowKit

def RowAt (w : World) (B : Nat → Prop) (α : Type) (el e : Nat) (enc : α → List D) (L : List α) (v : Value) : Prop :=
  (∃ p l c, v = .slice p l c) ∧ (∀ (i : Nat) x, L[i]? = some x → (enc x).length = e) ∧ ∃ xs, w.ownsRow 0 el e v L.length xs ∧ ∀ (i : Nat) x (j : Nat) d u, L[i]? = some x → (enc x)[j]? = some d → xs[i * e + j]? = some u → Rep (baseCtx w B) d u
structure TurnedO (ob : Option Nat) (w w' : World) : Prop where
  os : w'.os = w.os
  tape : w'.tape = w.tape
  output : w'.output = w.output
  size : w.heap.size ≤ w'.heap.size
  block : ∀ k, k < w.heap.size → ob ≠ some k → w'.heap[k]? = w.heap[k]?
  drawn : w.drawn ≤ w'.drawn
def RowFn (P : Program) (f : FuncId) {α : Type} (el e : Nat) (enc : α → List D) (L : List α) (rest : List D) (Q : List α → Prop) : Prop :=
  hasBody P f ∧ ∀ (w : World) (B : Nat → Prop) (v : Value) (args' : List Value), (∀ k, B k → k < w.heap.size ∧ v.ownBlock ≠ some k) → RowAt w B α el e enc L v → reps (baseCtx w B) rest args' →
    Calls P f (v :: args').toArray w fun e1 w' => ∃ v' L', Q L' ∧ e1 = .returned v' ∧ TurnedO v.ownBlock w w' ∧ (∀ g, v'.ownBlock = some g → v.ownBlock = some g ∨ w.heap.size ≤ g) ∧ RowAt w' (fun _ => True) α el e enc L' v'

def rowEnd {α : Type} (el e : Nat) (enc : α → List D) (s : St) (d : D) (Q : List α → Prop) : Prop := match d with
  | .grow id => match lget s.H id with
    | some (.grow _ el' e' enc' L') => el' = el ∧ e' = e ∧ ∃ L2 : List α, L'.map enc' = L2.map enc ∧ Q L2
    | _ => False
  | .cut id n => match lget s.H id with
    | some (.grow _ el' e' enc' L') => el' = el ∧ e' = e ∧ n ≤ L'.length ∧ ∃ L2 : List α, (L'.take n).map enc' = L2.map enc ∧ Q L2
    | _ => False
  | .v (.slice none 0 0) => Q []
  | _ => False

section
variable {P : Program} {tt : TT} {pl : Plans} {s : St} {K : D → St → Prop} {f : FuncId}

theorem row_cut {E : Env} {H : List (Nat × LO)} {nx : Nat} {σ : Nat → Nat} {τ : Nat → Value} {w1 : World} (hs : HR E H nx σ τ w1) {id : Nat} {β α : Type} {el e : Nat} {enc' : β → List D} {enc : α → List D} {L' : List β} {L2 : List α} {n : Nat} (hid : lget H id = some (.grow β el e enc' L'))
    (hn : n ≤ L'.length) (hm : (L'.take n).map enc' = L2.map enc) {p : Option Addr} {m c : Nat} (hv : τ id = .slice p m c) : RowAt w1 (fun _ => True) α el e enc L2 (.slice p n c) := by
  obtain ⟨_, xs, ⟨hxl, hown⟩, hlen, hrep⟩ := hs.grow id _ _ _ _ _ hid
  have hL2 : L2.length = n := by
    have := congrArg List.length hm
    simp only [List.length_map, List.length_take] at this
    omega
  have hget : ∀ (i : Nat) x, L2[i]? = some x → ∃ y, L'[i]? = some y ∧ enc' y = enc x ∧ i < n := by
    intro i x hx
    have hi := (List.getElem?_eq_some_iff.1 hx).1
    have h1 : ((L'.take n).map enc')[i]? = some (enc x) := by rw [hm, List.getElem?_map, hx]; rfl
    rw [List.getElem?_map, List.getElem?_take_of_lt (by omega)] at h1
    cases hq : L'[i]? with
    | none => rw [hq] at h1; cases h1
    | some y =>
      rw [hq] at h1
      simp only [Option.map_some, Option.some.injEq] at h1
      exact ⟨y, rfl, h1, by omega⟩
  have hle : (ctxOf E H nx σ τ w1).still.Le (baseCtx w1 (fun _ => True)) := ⟨fun _ _ _ h => h, fun _ _ => trivial, fun _ _ _ h => h, fun _ _ h => h, fun _ _ _ h => h⟩
  have hne : n * e ≤ L'.length * e := Nat.mul_le_mul_right e hn
  refine ⟨⟨_, _, _, rfl⟩, fun i x hx => ?_, xs.take (n * e), ⟨by rw [List.length_take, hxl, hL2]; omega, ?_⟩, fun i x j d u hx hd hu => ?_⟩
  · obtain ⟨y, h1, h2, _⟩ := hget i x hx
    rw [← h2]; exact hlen i y h1
  · rw [hL2]
    rcases hown with ⟨h1, h2⟩ | ⟨g, cap, cur, h1, h2, h3, h4, h5, h6, h7⟩
    · rw [hv] at h1
      injection h1 with h1 h8 h9
      subst h1 h9
      exact .inl ⟨by rw [show n = 0 by omega], by omega⟩
    · rw [hv] at h1
      injection h1 with h1 h8 h9
      subst h1 h9
      refine .inr ⟨g, _, cur, rfl, h2, h3, by omega, h5, h6, ?_⟩
      rw [← h7, List.take_take]
      congr 1
      omega
  · obtain ⟨y, h1, h2, hi⟩ := hget i x hx
    have hj : j < e := by have := (List.getElem?_eq_some_iff.1 hd).1; rw [← h2, hlen i y h1] at this; exact this
    have hb : i * e + e ≤ n * e := by
      have := Nat.mul_le_mul_right e (show i + 1 ≤ n from hi)
      rw [Nat.succ_mul] at this; exact this
    rw [List.getElem?_take_of_lt (by omega)] at hu
    rw [← h2] at hd
    exact (hrep i y j d u h1 hd hu).mono hle

theorem row_of_wpc (htt : ttOk P tt) (hb : entersAll P = true) (hm : P.follows .mixedOrders = true) {fn : Func} {c : Code} {α : Type} {el e : Nat} {enc : α → List D} {L : List α} {rest : List D} {Q : List α → Prop} (hfn : P.funcs[f]? = some fn) (hc : fn.body = some c) (hok : codeOk pl fn.ntmps c = true)
    (hn : rest.length + 1 ≤ fn.ntmps) (h : wpc P tt pl c ⟨enumD (.grow 0 :: rest) 0, [(0, .grow α el e enc L)], 1, ([], 0)⟩ fun e1 s' => endK e1 (resK tt s' fn.results.toList fun l => seeD (oneD l) fun d => rowEnd el e enc s' d Q)) : RowFn P f el e enc L rest Q := by
  refine ⟨⟨fn, hfn, by rw [hc]; rfl⟩, fun w B v args' hB hrow hr => ?_⟩
  obtain ⟨hsl, hlen, xs, hown, hrep⟩ := hrow
  let E : Env := ⟨w, B, fun k => v.ownBlock = some k, fn.ntmps, fun _ _ _ => False⟩
  let τ0 : Nat → Value := fun _ => v
  have howned : ∀ id k, owned [(0, .grow α el e enc L)] (fun _ => 0) τ0 id k → id = 0 ∧ v.ownBlock = some k := by
    intro id k ho
    by_cases hi : id = 0
    · subst hi
      rcases ho with ⟨_, _, h1, h2⟩ | ⟨_, _, _, _, _, h1, h2⟩ | ⟨_, h1, h2⟩
      · rw [lget_same] at h1; cases h1
      · exact ⟨rfl, h2⟩
      · rw [lget_same] at h1; cases h1
    · rcases ho with ⟨_, _, h1, h2⟩ | ⟨_, _, _, _, _, h1, h2⟩ | ⟨_, h1, h2⟩ <;> (rw [lget_ne _ _ hi] at h1; cases h1)
  have hle0 : (baseCtx w B).Le (ctxOf E [(0, .grow α el e enc L)] 1 (fun _ => 0) τ0 w).still :=
    ⟨fun _ _ _ h => h, fun k hk => ⟨.inl hk, (hB k hk).1, fun id ho => (hB k hk).2 (howned id k ho).2⟩, fun _ _ _ h => h.elim, fun _ _ h => h.elim, fun _ _ _ h => h.elim⟩
  have hle : (baseCtx w B).Le (ctxOf E [(0, .grow α el e enc L)] 1 (fun _ => 0) τ0 w) := hle0.trans (Ctx.still_le _)
  have hr1 : reps (ctxOf E [(0, .grow α el e enc L)] 1 (fun _ => 0) τ0 w) (.grow 0 :: rest) (v :: args') :=
    reps_cons (.grow ⟨Nat.zero_lt_one, rfl⟩) ⟨hr.1, fun j d u hd hu => (hr.2 j d u hd hu).mono hle⟩
  have hlen2 : args'.length + 1 ≤ fn.ntmps := by rw [hr.1]; exact hn
  have hs : SR E ⟨enumD (.grow 0 :: rest) 0, [(0, .grow α el e enc L)], 1, ([], 0)⟩ (fun _ => 0) τ0 { tmps := (v :: args').toArray ++ Array.replicate (fn.ntmps - (v :: args').toArray.size) undef, defers := [] } w := by
    refine ⟨⟨⟨rfl, rfl, rfl, Nat.le_refl _, fun _ _ _ => rfl, Nat.le_refl _⟩, fun k hk => ⟨fun h => (hB k hk).2 h, (hB k hk).1⟩, fun id el' l h => ?_, fun id α' el' e' enc' L' h => ?_, fun i j k h1 h2 => ?_, fun id o h => ?_, fun _ => hsl, fun id o h => by
      by_cases hi : id = 0
      · subst hi; rw [lget_same] at h; cases h
      · rw [lget_ne _ _ hi] at h; cases h⟩, rfl, ?_, fun i d hd => enter_slots hr1 fn.ntmps i d hd, fun _ _ _ h => h.elim, Nat.zero_le _⟩
    · by_cases hi : id = 0
      · subst hi; rw [lget_same] at h; cases h
      · rw [lget_ne _ _ hi] at h; cases h
    · by_cases hi : id = 0
      · subst hi
        rw [lget_same] at h
        injection h with h; injection h with q1 q2 q3 q4 q5
        subst q1 q2 q3
        have q4 := eq_of_heq q4
        have q5 := eq_of_heq q5
        subst q4 q5
        exact ⟨fun g hg => .inl hg, xs, hown, hlen, fun i x j d u hx hd hu => (hrep i x j d u hx hd hu).mono hle0⟩
      · rw [lget_ne _ _ hi] at h; cases h
    · rw [(howned i k h1).1, (howned j k h2).1]
    · by_cases hi : id = 0
      · subst hi; exact Nat.zero_lt_one
      · rw [lget_ne _ _ hi] at h; cases h
    · simp [E]; omega
  refine calls_of_wp hfn hc (wp_mono (wpc_sound (E := E) htt hb hm c hok _ _ _ _ _ w h hs) fun e1 a1 w1 hh => ?_)
  obtain ⟨x, s1, σ1, τ1, rfl, h1, h2⟩ := hh
  have hturn : TurnedO v.ownBlock w w1 := ⟨h2.heap.kept.os, h2.heap.kept.tape, h2.heap.kept.output, h2.heap.kept.size, fun k hk hne => h2.heap.kept.block k hk hne, h2.heap.kept.drawn⟩
  have fin : resK tt s1 fn.results.toList (fun l => seeD (oneD l) fun d => rowEnd el e enc s1 d Q) →
      a1.defers = [] ∧ ∃ v0, (results fn a1.tmps).run P w1 = .ok v0 w1 ∧ ∃ v' L', Q L' ∧ Ending.returned v0 = .returned v' ∧ TurnedO v.ownBlock w w1 ∧ (∀ g, v'.ownBlock = some g → v.ownBlock = some g ∨ w.heap.size ≤ g) ∧ RowAt w1 (fun _ => True) α el e enc L' v' := by
    intro hres
    obtain ⟨l, vs, h3, h4, h5⟩ := resK_run htt h2 _ _ hres
    rw [seeD_eq] at h3
    have hone := oneD_rep h4
    refine ⟨h2.defers, oneV vs, results_at h5, oneV vs, ?_⟩
    generalize oneD l = d at *
    generalize oneV vs = u at *
    unfold rowEnd at h3
    split at h3
    · rename_i id
      split at h3
      · rename_i β el' e' enc' L' hg
        obtain ⟨rfl, rfl, L2, h6, h7⟩ := h3
        have hv : u = τ1 id := by
          cases hone with
          | grow hh => exact hh.2
        obtain ⟨p, m, c2, hsl1⟩ := h2.heap.slices id
        have hm1 : m = L'.length := by
          obtain ⟨_, _, ⟨_, hown1⟩, _⟩ := h2.heap.grow id _ _ _ _ _ hg
          rcases hown1 with ⟨q1, q2⟩ | ⟨g, cap, cur, q1, _⟩
          · rw [hsl1] at q1; injection q1 with q1 q3 q4; omega
          · rw [hsl1] at q1; injection q1 with q1 q3 q4
        have := row_cut (enc := enc) (L2 := L2) (n := L'.length) h2.heap hg (Nat.le_refl _) (by rw [List.take_length]; exact h6) hsl1
        rw [hm1] at hsl1
        rw [← hsl1, ← hv] at this
        refine ⟨L2, h7, rfl, hturn, fun g hg2 => ?_, this⟩
        rw [hv] at hg2
        exact (h2.heap.grow id _ _ _ _ _ hg).1 g hg2
      · exact h3.elim
    · rename_i id n
      split at h3
      · rename_i β el' e' enc' L' hg
        obtain ⟨rfl, rfl, hnl, L2, h6, h7⟩ := h3
        cases hone with
        | cut hh hnm =>
          obtain ⟨_, hh⟩ := hh
          have := row_cut (enc := enc) (L2 := L2) h2.heap hg hnl h6 hh.symm
          refine ⟨L2, h7, rfl, hturn, fun g hg2 => ?_, this⟩
          have := (h2.heap.grow id _ _ _ _ _ hg).1 g
          rw [← hh] at this
          refine this ?_
          rename_i pp mm cc
          cases pp with
          | none => cases hg2
          | some a => exact hg2
      · exact h3.elim
    · cases hone with
      | v => exact ⟨[], h3, rfl, hturn, (fun g hg => by cases hg), ⟨_, _, _, rfl⟩, (fun i x h => by cases h), [], ⟨by simp, .inl ⟨rfl, rfl⟩⟩, fun i x j d u h => by cases h⟩
    · exact h3.elim
  cases x with
  | normal => exact fin h1
  | ret => exact fin h1
  | exit i => exact h1.elim

theorem owned_off {H : List (Nat × LO)} {σ : Nat → Nat} {τ : Nat → Value} {i id b : Nat} (h : owned ((i, .dead) :: H) σ τ id b) : id ≠ i ∧ owned H σ τ id b := by
  by_cases hi : id = i
  · subst hi
    rcases h with ⟨el, l, h1, _⟩ | ⟨α, el, e, enc, L, h1, _⟩ | ⟨o, h1, _⟩ <;> (rw [lget_same] at h1; cases h1)
  · refine ⟨hi, ?_⟩
    rcases h with ⟨el, l, h1, h2⟩ | ⟨α, el, e, enc, L, h1, h2⟩ | ⟨o, h1, h2⟩
    rotate_left 2
    · rw [lget_ne _ _ hi] at h1; exact .inr (.inr ⟨o, h1, h2⟩)
    · rw [lget_ne _ _ hi] at h1; exact .inl ⟨el, l, h1, h2⟩
    · rw [lget_ne _ _ hi] at h1; exact .inr (.inl ⟨α, el, e, enc, L, h1, h2⟩)

def setV (τ : Nat → Value) (i : Nat) (v : Value) : Nat → Value := fun j => if j = i then v else τ j

theorem CallVC.row {α : Type} {el e : Nat} {enc : α → List D} {L : List α} {rest rest0 : List D} {Q : List α → Prop} {i : Nat} (hf : RowFn P f el e enc L rest0 Q) (hid : lget s.H i = some (.grow α el e enc L)) (he : rest.map (snapD 6 ((i, .dead) :: s.H)) = rest0) (hfl : ∀ x, (enc x).all (flatD 1) = true)
    (h : ∀ L', Q L' → K (.grow s.nx) ⟨s.F, (s.nx, .grow α el e enc L') :: (i, .dead) :: s.H, s.nx + 1, s.G⟩) : CallVC P false f (.grow i :: rest) s K := by
  subst he
  refine ⟨hf.1, fun E σ τ a w args0 hs hr => ?_⟩
  obtain ⟨hmine, xs, hown, hlen, hrep⟩ := hs.heap.grow i α el e enc L hid
  match args0, hr with
  | [], hr => have := hr.1; simp at this
  | v0 :: args', hr =>
  have hv0 : v0 = τ i := by
    have := hr.2 0 (.grow i) v0 rfl rfl
    cases this with
    | grow hh => exact hh.2
  subst hv0
  have hown_i : ∀ g, (τ i).ownBlock = some g → owned s.H σ τ i g := fun g hg => .inr (.inl ⟨_, _, _, _, _, hid, hg⟩)
  -- what is looked at: all but that row
  let K2 : Nat → Prop := fun b => ∃ id, id ≠ i ∧ owned s.H σ τ id b
  let E2 : Env := ⟨w, (ctxOf E s.H s.nx σ τ w).ok, K2, 0, fun _ _ _ => False⟩
  let B : Nat → Prop := fun b => ((E2.B b ∨ E2.K b) ∨ E2.w.heap.size ≤ b) ∧ b < w.heap.size
  have hle2 : (ctxOf E s.H s.nx σ τ w).Le (ctxOf E2 ((i, .dead) :: s.H) s.nx σ τ w) :=
    ⟨fun _ _ _ h => h, fun b hb => ⟨.inl hb, hb.2.1, fun id ho => hb.2.2 id (owned_off ho).2⟩, fun _ _ _ h => h, fun _ _ h => h, fun _ _ _ h => h⟩
  have hk2 : ∀ {id b}, owned ((i, .dead) :: s.H) σ τ id b → K2 b := fun ho => ⟨_, (owned_off ho).1, (owned_off ho).2⟩
  have hHR2 : HR E2 ((i, .dead) :: s.H) s.nx σ τ w := by
    refine ⟨⟨rfl, rfl, rfl, Nat.le_refl _, fun _ _ _ => rfl, Nat.le_refl _⟩, fun b hb => ⟨fun ⟨id, _, ho⟩ => hb.2.2 id ho, hb.2.1⟩, fun id el' l h => ?_, fun id α' el' e' enc' L' h => ?_, fun p q b h1 h2 => hs.heap.apart p q b (owned_off h1).2 (owned_off h2).2, fun id o h => ?_, hs.heap.slices, fun id o h => ?_⟩
    · have ho : owned ((i, .dead) :: s.H) σ τ id (σ id) := .inl ⟨_, _, h, rfl⟩
      have hi : id ≠ i := (owned_off ho).1
      rw [lget_ne _ _ hi] at h
      obtain ⟨_, c, h2, h3, h4⟩ := hs.heap.cells id el' l h
      exact ⟨.inl (hk2 ho), c, h2, h3, fun j d u hd hu => (h4 j d u hd hu).mono hle2⟩
    · have hi : id ≠ i := by rintro rfl; rw [lget_same] at h; cases h
      have h0 := h
      rw [lget_ne _ _ hi] at h
      obtain ⟨_, xs', h2, h3, h4⟩ := hs.heap.grow id α' el' e' enc' L' h
      exact ⟨fun g hg => .inl (hk2 (.inr (.inl ⟨_, _, _, _, _, h0, hg⟩))), xs', h2, h3, fun p x j d u hx hd hu => (h4 p x j d u hx hd hu).mono hle2.still⟩
    · by_cases hi : id = i
      · subst hi; exact hs.heap.below id _ hid
      · rw [lget_ne _ _ hi] at h; exact hs.heap.below id o h
    · have h0 := h
      have hi : id ≠ i := by rintro rfl; rw [lget_same] at h; cases h
      rw [lget_ne _ _ hi] at h
      exact ⟨fun k hk => ⟨.inl (hk2 (.inr (.inr ⟨_, h0, hk⟩))), ((hs.heap.obj id o h).1 k hk).2⟩, OA.at_mono (hs.heap.obj id o h).2 (fun _ _ => rfl) (Nat.le_refl _) hle2.still⟩
  have hB : ∀ k, B k → k < w.heap.size ∧ (τ i).ownBlock ≠ some k := by
    intro k hk
    refine ⟨hk.2, fun hg => ?_⟩
    rcases hk.1 with (hk1 | ⟨id, h1, h2⟩) | hk1
    · exact hk1.2.2 i (hown_i k hg)
    · exact h1 (hs.heap.apart id i k h2 (hown_i k hg))
    · have : w.heap.size ≤ k := hk1
      have := hk.2
      omega
  have hrow : RowAt w B α el e enc L (τ i) := by
    refine ⟨hs.heap.slices i, hlen, xs, hown, fun p x j d u hx hd hu => (hrep p x j d u hx hd hu).mono ⟨fun _ _ _ h => h, fun b hb => ⟨.inl (.inl hb), hb.2.1⟩, fun _ _ _ h => h, fun _ _ h => h, fun _ _ _ h => h⟩⟩
  have hrest : reps (baseCtx w B) (rest.map (snapD 6 ((i, .dead) :: s.H))) args' := by
    refine ⟨by have := hr.1; simp at this; simp [this], fun j d u hd hu => ?_⟩
    rw [List.getElem?_map] at hd
    cases hq : rest[j]? with
    | none => rw [hq] at hd; cases hd
    | some x =>
      rw [hq] at hd
      simp only [Option.map_some, Option.some.injEq] at hd
      subst hd
      exact snap_rep (s := ⟨[], (i, .dead) :: s.H, s.nx, ([], 0)⟩) hHR2 6 x u ((hr.2 (j + 1) x u (by simpa using hq) (by simpa using hu)).mono hle2)
  refine (hf.2 w B (τ i) args' hB hrow hrest).mono fun e1 w' hh => ?_
  obtain ⟨v', L', hq, rfl, ht, hnb, hrow'⟩ := hh
  obtain ⟨hsl', hlen', xs', hown', hrep'⟩ := hrow'
  have hblk : ∀ k, k < w.heap.size → ¬ owned s.H σ τ i k → w'.heap[k]? = w.heap[k]? := fun k hk hno => ht.block k hk fun hg => hno (hown_i k hg)
  have howned' : ∀ id b, owned ((s.nx, .grow α el e enc L') :: (i, .dead) :: s.H) σ (setV τ s.nx v') id b → (id = s.nx ∧ v'.ownBlock = some b) ∨ (id ≠ s.nx ∧ id ≠ i ∧ owned s.H σ τ id b) := by
    intro id b ho
    by_cases hi : id = s.nx
    · subst hi
      refine .inl ⟨rfl, ?_⟩
      rcases ho with ⟨el, l, h1, _⟩ | ⟨α, el, e, enc, L, h1, h2⟩ | ⟨o, h1, _⟩
      · rw [lget_same] at h1; cases h1
      · simpa [setV] using h2
      · rw [lget_same] at h1; cases h1
    · have ho2 : owned ((i, .dead) :: s.H) σ τ id b := by
        rcases ho with ⟨el, l, h1, h2⟩ | ⟨α, el, e, enc, L, h1, h2⟩ | ⟨o, h1, h2⟩
        · rw [lget_ne _ _ hi] at h1; exact .inl ⟨_, _, h1, h2⟩
        · rw [lget_ne _ _ hi] at h1; exact .inr (.inl ⟨_, _, _, _, _, h1, by simpa [setV, hi] using h2⟩)
        · rw [lget_ne _ _ hi] at h1; exact .inr (.inr ⟨_, h1, h2⟩)
      exact .inr ⟨hi, owned_off ho2⟩
  have hgood : ∀ b, (ctxOf E s.H s.nx σ τ w).ok b → (ctxOf E ((s.nx, .grow α el e enc L') :: (i, .dead) :: s.H) (s.nx + 1) σ (setV τ s.nx v') w').ok b := fun b hb => by
    refine ⟨hb.1, Nat.lt_of_lt_of_le hb.2.1 ht.size, fun id ho => ?_⟩
    rcases howned' id b ho with ⟨_, h2⟩ | ⟨_, _, h2⟩
    · rcases hnb b h2 with h3 | h3
      · exact hb.2.2 i (hown_i b h3)
      · have : b < w.heap.size := hb.2.1
        omega
    · exact hb.2.2 id h2
  have hle : (ctxOf E s.H s.nx σ τ w).Le (ctxOf E ((s.nx, .grow α el e enc L') :: (i, .dead) :: s.H) (s.nx + 1) σ (setV τ s.nx v') w') := by
    refine ⟨fun b of hb hc => (hblk b hb.2.1 (hb.2.2 i)).trans hc, hgood, fun id off v hv => ⟨Nat.lt_succ_of_lt hv.1, hv.2⟩, fun id v hv => ⟨Nat.lt_succ_of_lt hv.1, ?_⟩, fun id off v hv => ⟨Nat.lt_succ_of_lt hv.1, ?_⟩⟩
    · have : id ≠ s.nx := by have := hv.1; omega
      simpa [setV, this] using hv.2
    · have : id ≠ s.nx := by have := hv.1; omega
      simpa [setV, this] using hv.2
  have hother : ∀ id b, id ≠ i → owned s.H σ τ id b → w'.heap[b]? = w.heap[b]? := fun id b hi ho => hblk b (owned_lt hs.heap ho) fun ho2 => hi (hs.heap.apart id i b ho ho2)
  refine ⟨.grow s.nx, _, σ, setV τ s.nx v', v', h L' hq, rfl, ⟨⟨⟨ht.os.trans hs.heap.kept.os, ht.tape.trans hs.heap.kept.tape, ht.output.trans hs.heap.kept.output, Nat.le_trans hs.heap.kept.size ht.size, fun k hk hnk => ?_, Nat.le_trans hs.heap.kept.drawn ht.drawn⟩, hs.heap.few, fun id el' l hl => ?_, fun id α' el' e' enc' L2 hl => ?_, fun p q b h1 h2 => ?_, fun id o hl => ?_, fun id => ?_, fun id o hl => ?_⟩, hs.defers, hs.size, fun j d hd => (hs.slots j d hd).mono hle, hs.ghost_le rfl hle, Nat.le_succ_of_le hs.room⟩, .grow ⟨Nat.lt_succ_self _, by simp [setV]⟩, fun hg => by cases hg⟩
  · refine (hblk k (Nat.lt_of_lt_of_le hk hs.heap.kept.size) fun ho => ?_).trans (hs.heap.kept.block k hk hnk)
    rcases ho with ⟨_, _, h1, _⟩ | ⟨_, _, _, _, _, h1, h2⟩ | ⟨_, h1, _⟩
    · rw [hid] at h1; cases h1
    · rcases hmine k h2 with h3 | h3
      · exact hnk h3
      · omega
    · rw [hid] at h1; cases h1
  · have hi : id ≠ s.nx := by rintro rfl; rw [lget_same] at hl; cases hl
    rw [lget_ne _ _ hi] at hl
    have hi2 : id ≠ i := by rintro rfl; rw [lget_same] at hl; cases hl
    rw [lget_ne _ _ hi2] at hl
    obtain ⟨h1, c, h2, h3, h4⟩ := hs.heap.cells id el' l hl
    exact ⟨h1, c, (hother id _ hi2 (.inl ⟨_, _, hl, rfl⟩)).trans h2, h3, fun j d u hd hu => (h4 j d u hd hu).mono hle⟩
  · by_cases hi : id = s.nx
    · subst hi
      rw [lget_same] at hl
      injection hl with hl; injection hl with q1 q2 q3 q4 q5
      subst q1 q2 q3
      have q4 := eq_of_heq q4
      have q5 := eq_of_heq q5
      subst q4 q5
      have hvv : setV τ s.nx v' s.nx = v' := by simp [setV]
      rw [hvv]
      refine ⟨fun g hg => ?_, xs', hown', hlen', fun p x j d u hx hd hu => flat_rep 1 d u (all_at (hfl x) hd) (hrep' p x j d u hx hd hu)⟩
      rcases hnb g hg with h3 | h3
      · exact hmine g h3
      · exact .inr (Nat.le_trans hs.heap.kept.size h3)
    · rw [lget_ne _ _ hi] at hl
      have hi2 : id ≠ i := by rintro rfl; rw [lget_same] at hl; cases hl
      rw [lget_ne _ _ hi2] at hl
      obtain ⟨h1, xs2, ⟨h2, h2'⟩, h3, h4⟩ := hs.heap.grow id α' el' e' enc' L2 hl
      have hvv : setV τ s.nx v' id = τ id := by simp [setV, hi]
      rw [hvv]
      refine ⟨h1, xs2, ⟨h2, ?_⟩, h3, fun p x j d u hx hd hu => (h4 p x j d u hx hd hu).mono hle.still⟩
      rcases h2' with h2' | ⟨g, cap, cur, q1, q2, q3, q4⟩
      · exact .inl h2'
      · exact .inr ⟨g, cap, cur, q1, q2, (hother id g hi2 (.inr (.inl ⟨_, _, _, _, _, hl, by rw [q1]; rfl⟩))).trans q3, q4⟩
  · rcases howned' p b h1 with ⟨h3, h4⟩ | ⟨h3, h4, h5⟩ <;> rcases howned' q b h2 with ⟨h6, h7⟩ | ⟨h6, h7, h8⟩
    · rw [h3, h6]
    · rcases hnb b h4 with h9 | h9
      · exact absurd (hs.heap.apart q i b h8 (hown_i b h9)) h7
      · have := owned_lt hs.heap h8; omega
    · rcases hnb b h7 with h9 | h9
      · exact absurd (hs.heap.apart p i b h5 (hown_i b h9)) h4
      · have := owned_lt hs.heap h5; omega
    · exact hs.heap.apart p q b h5 h8
  · by_cases hi : id = s.nx
    · subst hi; exact Nat.lt_succ_self _
    · rw [lget_ne _ _ hi] at hl
      by_cases hi2 : id = i
      · subst hi2; exact Nat.lt_succ_of_lt (hs.heap.below id _ hid)
      · rw [lget_ne _ _ hi2] at hl; exact Nat.lt_succ_of_lt (hs.heap.below id o hl)
  · by_cases hi : id = s.nx
    · subst hi; simpa [setV] using hsl'
    · simpa [setV, hi] using hs.heap.slices id
  · have hi : id ≠ s.nx := by rintro rfl; rw [lget_same] at hl; cases hl
    rw [lget_ne _ _ hi] at hl
    have hi2 : id ≠ i := by rintro rfl; rw [lget_same] at hl; cases hl
    rw [lget_ne _ _ hi2] at hl
    obtain ⟨h1, h2⟩ := hs.heap.obj id o hl
    exact ⟨fun k hk => ⟨(h1 k hk).1, Nat.lt_of_lt_of_le (h1 k hk).2 ht.size⟩, OA.at_mono h2 (fun k hk => hother id k hi2 (.inr (.inr ⟨_, hl, hk⟩))) ht.size hle.still⟩
end
end Go.Proofs.YtcbpdjikdohegaaGreat.V
namespace Go.Proofs.YtcbpdjikdohegaaGreat.V
open Go.RowKit

section
variable {P : Program} {E : Env} {s : St} {σ : Nat → Nat} {τ : Nat → Value} {a : Act} {w : World}

theorem over_world (hs : SR E s σ τ a w) {id : Nat} {β : Type} {el e : Nat} {enc : β → List D} {L L' : List β} (hid : lget s.H id = some (.grow β el e enc L)) (hL : L'.length = L.length) (hlen : ∀ (i : Nat) x, L'[i]? = some x → (enc x).length = e)
    {g cap : Nat} {cur c' : Array Value} (hv : τ id = .slice (some ⟨g, 0, none⟩) L.length cap) (hg : w.heap[g]? = some (.cells cur el (0, 0))) (hcap : L.length ≤ cap) (hmax : cap ≤ maxLen) (hcs : cur.size = cap * e) {w' : World}
    (q2 : w'.heap[g]? = some (.cells c' el (0, 0))) (q3 : c'.size = cur.size) (hdr : w.drawn ≤ w'.drawn) (q5 : w'.os = w.os) (q6 : w'.tape = w.tape) (q7 : w'.output = w.output) (q8 : w'.heap.size = w.heap.size) (q9 : ∀ k, k ≠ g → w'.heap[k]? = w.heap[k]?)
    (hnew : ∀ (i : Nat) x (j : Nat) d u, L'[i]? = some x → (enc x)[j]? = some d → c'[i * e + j]? = some u → Rep (ctxOf E s.H s.nx σ τ w).still d u) :
    SR E ⟨s.F, (id, .grow β el e enc L') :: s.H, s.nx, s.G⟩ σ τ a w' := by
  obtain ⟨hmine, _, _, _, _⟩ := hs.heap.grow id _ _ _ _ _ hid
  have hgb : (τ id).ownBlock = some g := by rw [hv]; rfl
  have howng : owned s.H σ τ id g := .inr (.inl ⟨_, _, _, _, _, hid, hgb⟩)
  have hce : L.length * e ≤ cap * e := Nat.mul_le_mul_right e hcap
  have hle : (ctxOf E s.H s.nx σ τ w).Le (ctxOf E ((id, .grow β el e enc L') :: s.H) s.nx σ τ w') := by
    refine ⟨fun b of hb hc => ?_, fun b hb => ?_, fun _ _ _ hv => hv, fun _ _ hv => hv, fun _ _ _ hv => hv⟩
    · have hne : b ≠ g := by rintro rfl; exact hb.2.2 id howng
      exact (q9 b hne).trans hc
    · exact ⟨hb.1, by show b < w'.heap.size; rw [q8]; exact hb.2.1, fun j ho => hb.2.2 j (owned_over hid ho)⟩
  refine ⟨⟨⟨q5.trans hs.heap.kept.os, q6.trans hs.heap.kept.tape, q7.trans hs.heap.kept.output, by rw [q8]; exact hs.heap.kept.size, fun k hk1 hn => ?_, Nat.le_trans hs.heap.kept.drawn hdr⟩, hs.heap.few, fun j el' l2 h => ?_, fun j α el' e' enc' L2 h => ?_, fun i j b h1 h2 => hs.heap.apart i j b (owned_over hid h1) (owned_over hid h2), fun j o h => ?_, hs.heap.slices, fun j o h => by
    have hj : j ≠ id := by rintro rfl; rw [lget_same] at h; cases h
    rw [lget_ne _ _ hj] at h
    obtain ⟨h1, h2⟩ := hs.heap.obj j o h
    exact ⟨fun k hkf => ⟨(h1 k hkf).1, by rw [q8]; exact (h1 k hkf).2⟩, OA.at_mono h2 (fun k hkf => q9 k fun he => hj (hs.heap.apart j id k (.inr (.inr ⟨_, h, hkf⟩)) (he ▸ howng))) (Nat.le_of_eq q8.symm) hle.still⟩⟩, hs.defers, hs.size, fun i d h => (hs.slots i d h).mono hle, hs.ghost_le rfl hle, hs.room⟩
  · have hne : k ≠ g := by
      rintro rfl
      rcases hmine k hgb with hm | hm
      · exact hn hm
      · omega
    exact (q9 k hne).trans (hs.heap.kept.block k hk1 hn)
  · have hj : j ≠ id := by rintro rfl; rw [lget_same] at h; cases h
    rw [lget_ne _ _ hj] at h
    obtain ⟨h1, c2, h2, h3, h4⟩ := hs.heap.cells j el' l2 h
    have hne : σ j ≠ g := fun he => hj (hs.heap.apart j id (σ j) (.inl ⟨_, _, h, rfl⟩) (he ▸ howng))
    exact ⟨h1, c2, (q9 _ hne).trans h2, h3, fun i d u hd hu => (h4 i d u hd hu).mono hle⟩
  · by_cases hj : j = id
    · subst hj
      rw [lget_same] at h
      injection h with h; injection h with e1 e2 e3 e4 e5
      subst e1 e2 e3
      have e4 := eq_of_heq e4
      have e5 := eq_of_heq e5
      subst e4 e5
      have h9 : c'.toList.length = c'.size := by simp
      have h10 : (c'.toList.take (L'.length * e)).length = L'.length * e := by
        rw [List.length_take, h9, q3, hL]; omega
      refine ⟨hmine, c'.toList.take (L'.length * e), ⟨h10, .inr ⟨g, cap, c', by rw [hL]; exact hv, Nat.zero_le _, q2, by omega, hmax, by rw [q3]; exact hcs, rfl⟩⟩, hlen, fun i x k d u hx hd hu => ?_⟩
      have hi : i < L.length := by have := (List.getElem?_eq_some_iff.1 hx).1; omega
      have hk : k < e := by have := (List.getElem?_eq_some_iff.1 hd).1; rw [hlen i x hx] at this; exact this
      have hb : i * e + e ≤ L.length * e := by
        have := Nat.mul_le_mul_right e (show i + 1 ≤ L.length from hi)
        rw [Nat.succ_mul] at this; exact this
      rw [hL, List.getElem?_take_of_lt (by omega), Array.getElem?_toList] at hu
      exact (hnew i x k d u hx hd hu).mono hle.still
    · rw [lget_ne _ _ hj] at h
      obtain ⟨h1, xs2, ⟨h2, h2'⟩, h3, h4⟩ := hs.heap.grow j α el' e' enc' L2 h
      refine ⟨h1, xs2, ⟨h2, ?_⟩, h3, fun i x k d u hx hd hu => (h4 i x k d u hx hd hu).mono hle.still⟩
      rcases h2' with h2' | ⟨g2, cap2, cur2, hv2, hb2, hg2, hr2⟩
      · exact .inl h2'
      · refine .inr ⟨g2, cap2, cur2, hv2, hb2, (q9 g2 ?_).trans hg2, hr2⟩
        rintro rfl
        exact hj (hs.heap.apart j id _ (.inr (.inl ⟨α, el', e', enc', L2, h, by rw [hv2]; rfl⟩)) howng)
  · by_cases hj : j = id
    · subst hj; exact hs.heap.below j _ hid
    · rw [lget_ne _ _ hj] at h; exact hs.heap.below j o h

open Go.Shelf Go.Sort in
theorem mapBlock_other (w : World) (blk k : Nat) (f : Array Value → Array Value) (h : k ≠ blk) : (mapBlock w blk f).heap[k]? = w.heap[k]? := by
  unfold mapBlock
  rw [Array.getElem?_modify, if_neg (fun e => h e.symm)]
open Go.Shelf Go.Sort in
theorem mapBlock_at {w : World} {blk : Nat} {f : Array Value → Array Value} {c : Array Value} {el : TypeId} {fr : Nat × Nat} (h : w.heap[blk]? = some (.cells c el fr)) : (mapBlock w blk f).heap[blk]? = some (.cells (f c) el fr) := by
  unfold mapBlock
  rw [Array.getElem?_modify, if_pos rfl, h]
  rfl

open Go.Sort in
theorem under_grow {w w' : World} (h : Under w.heap.size w w') : ∃ q os', w' = grow (w.drewN q) os' := by
  refine ⟨w'.drawn - w.drawn, w'.heap.extract w.heap.size w'.heap.size, ?_⟩
  have hh : w'.heap = w.heap ++ w'.heap.extract w.heap.size w'.heap.size := by
    apply Array.ext_getElem?
    intro i
    have hs := h.size
    by_cases hi : i < w.heap.size
    · rw [Array.getElem?_append_left hi]; exact h.block i hi
    · rw [Array.getElem?_append_right (by omega), Array.getElem?_extract]
      split
      · congr 1; omega
      · rename_i hge
        exact Array.getElem?_eq_none (by omega)
  have hd : w.drawn + (w'.drawn - w.drawn) = w'.drawn := by have := h.drawn; omega
  obtain ⟨a, b, c, d, e⟩ := w'
  have h1 := h.os; have h2 := h.tape; have h3 := h.output
  simp only at h1 h2 h3 hd hh
  unfold grow World.drewN
  simp only
  rw [hd, ← hh, h1, h2, h3]
open Go.Shelf Go.Sort Go.Lib in
theorem sort_vc {ρ : Ren} (L0 : SlLaysF0.n6 P ρ) {α β : Type} [Inhabited β] {k el : Nat} {encD : α → List D} {val : β → α} (encV : β → List Value) (henc : ∀ x, encD (val x) = (encV x).map .v) (hk : ∀ x, (encV x).length = k) (hk0 : 0 < k) (h1 : ∀ x, ∀ v ∈ encV x, v.oneCell' = true)
    (aE : ∀ w, (isAgg (ρ.t 24)).run P w = .ok true w) (zE : ∀ w, (Go.sizeOf (ρ.t 24)).run P w = .ok k w) (cf : β → β → Int) (hO : SWO (ltOf cf)) (g : Nat) (eg : ∀ args w, (callFunc g args).run P w = .ok (.enter g args) w)
    (hcmp : ∀ (x y : β) (W : World), Calls P g #[.agg (encV x).toArray, .agg (encV y).toArray] W fun e w' => e = .returned (.int .i64 (cf x y)) ∧ ∃ q os', w' = grow (W.drewN q) os') (hb : hasBody P (ρ.f 6))
    {id : Nat} {M : List β} {K : D → St → Prop} (hid : lget s.H id = some (.grow α el k encD (M.map val))) (hpos : 0 < M.length) (hsz : M.length < 4611686018427387904)
    (h : ∀ M' : List β, M'.Perm M → (∀ (i j : Nat) x y, i < j → M'[i]? = some x → M'[j]? = some y → 0 ≤ cf y x) → K (.tup []) ⟨s.F, (id, .grow α el k encD (M'.map val)) :: s.H, s.nx, s.G⟩) : CallVC P false (ρ.f 6) [.grow id, .fn g [] []] s K := by
  refine ⟨hb, fun E σ τ a w args' hs hr => ?_⟩
  obtain ⟨hal, har⟩ := hr
  obtain ⟨va, vb, rfl⟩ : ∃ va vb, args' = [va, vb] := by
    match args', hal with
    | [x, y], _ => exact ⟨x, y, rfl⟩
  have ha := har 0 _ va rfl rfl
  have hf := har 1 _ vb rfl rfl
  have hfv : vb = .func (.func g) #[] #[] := by
    cases hf with
    | fn e1 e2 e3 e4 =>
      rename_i x y
      have : x = #[] := Array.eq_empty_of_size_eq_zero e1
      subst this
      have : y = #[] := Array.eq_empty_of_size_eq_zero e2
      subst this
      rfl
  subst hfv
  have hav : va = τ id := by
    cases ha with
    | grow hg => exact hg.2
  subst hav
  obtain ⟨hmine, xs, ⟨hxl, hown⟩, hlen0, hrep0⟩ := hs.heap.grow id _ _ _ _ _ hid
  have hML : (M.map val).length = M.length := List.length_map _
  rcases hown with ⟨_, hn⟩ | ⟨b, cap, cur, hv, _, hg, hcap, hmax, hcs, htk⟩
  · omega
  have hd : M.toArray.size = M.length := by simp
  have hcell : ∀ (i j : Nat) (x : β), M[i]? = some x → j < k → cur[i * k + j]? = (encV x)[j]? := by
    intro i j x hx hj
    have hi : i < M.length := (List.getElem?_eq_some_iff.1 hx).1
    have hbn : i * k + k ≤ M.length * k := by
      have := Nat.mul_le_mul_right k (show i + 1 ≤ M.length from hi)
      rw [Nat.succ_mul] at this; exact this
    have hcu : (encV x)[j]? = some ((encV x)[j]'(by rw [hk]; exact hj)) := List.getElem?_eq_getElem _
    have hcz : i * k + j < xs.length := by rw [hxl, hML]; omega
    have hxs : xs[i * k + j]? = some xs[i * k + j] := List.getElem?_eq_getElem hcz
    have h5 := hrep0 i (val x) j (.v ((encV x)[j]'(by rw [hk]; exact hj))) xs[i * k + j] (by rw [List.getElem?_map, hx]; rfl) (by rw [henc, List.getElem?_map, hcu]; rfl) hxs
    have h6 := rep_v h5
    have h7 : cur[i * k + j]? = some xs[i * k + j] := by
      rw [← Array.getElem?_toList, ← hxs, ← htk, List.getElem?_take_of_lt (by omega)]
    rw [h7, h6, hcu]
  have hdm : ∀ t, t < M.length * k → t / k < M.length ∧ t % k < k ∧ t / k * k + t % k = t := fun t ht => ⟨Nat.div_lt_of_lt_mul (by rw [Nat.mul_comm]; exact ht), Nat.mod_lt _ hk0, Nat.div_add_mod' t k⟩
  have hH : HoldsK encV k w b 0 M.toArray := by
    intro t ht
    rw [size_flatK, hd] at ht
    obtain ⟨e1, e2, e3⟩ := hdm t ht
    refine ⟨?_, by simp [World.frozen?, hg]⟩
    have h5 := hcell (t / k) (t % k) M[t / k] (List.getElem?_eq_getElem e1) e2
    rw [e3] at h5
    rw [get_flatK _ _ _ _ (by rw [hd]; exact ht)]
    have h6 : M.toArray[t / k]! = M[t / k] := by rw [getElem!_pos M.toArray (t / k) (by rw [hd]; exact e1)]; simp
    rw [h6, getElem!_pos (encV M[t / k]) (t % k) (by rw [hk]; exact e2)]
    simp only [World.cell?, hg, Nat.zero_add, h5]
    exact List.getElem?_eq_getElem _
  have hblk : b < w.heap.size := (Array.getElem?_eq_some_iff.1 hg).1
  have hcon := AnyQ.slices_SortFunc L0 k aE zE encV hk h1 cf hO g #[] b 0 cap M.toArray w eg (fun m os dk _ x y => by simpa using hcmp x y _) hH hblk (by rw [hd]; exact hsz)
  rw [hd] at hcon
  have hvv : τ id = .slice (some ⟨b, 0, none⟩) M.length cap := by rw [hv, hML]
  rw [hvv]
  refine hcon.mono fun e w' hh => ?_
  obtain ⟨rfl, d', n, os, ⟨p1, p2, p3⟩, p4, rfl⟩ := hh
  have hd' : d'.toList.length = M.length := by rw [Array.length_toList, p1, hd]
  have hperm : d'.toList.Perm M := by
    have e1 : d'.extract 0 M.length = d' := by rw [← hd, ← p1]; exact Array.extract_size
    have e2 : M.toArray.extract 0 M.length = M.toArray := by rw [← hd]; exact Array.extract_size
    rw [e1, e2] at p3
    simpa using p3
  let w1 := putRowK encV k (Sort.ahead w n) b 0 d'
  have hg1 : (Sort.ahead w n).heap[b]? = some (.cells cur el (0, 0)) := hg
  have hc1 : w1.heap[b]? = some (.cells (putCells _root_.id 0 (flatK encV k d') cur) el (0, 0)) := mapBlock_at hg1
  have hfs : (flatK encV k d').size = M.length * k := by rw [size_flatK, p1, hd]
  have hsr : SR E ⟨s.F, (id, .grow α el k encD (d'.toList.map val)) :: s.H, s.nx, s.G⟩ σ τ a w1 := by
    refine over_world hs hid (by rw [List.length_map, hd', hML]) (fun i x hx => ?_) hv hg (by rw [hML] at hcap ⊢; exact hcap) hmax hcs hc1 (by simp [putCells]) (Nat.le_add_right _ _) rfl rfl rfl (by simp [w1, putRowK, Sort.ahead]) (fun j hj => mapBlock_other _ _ _ _ hj) (fun i x j d u hx hd2 hu => ?_)
    · rw [List.getElem?_map] at hx
      cases hq : d'.toList[i]? with
      | none => rw [hq] at hx; cases hx
      | some y => rw [hq] at hx; simp only [Option.map_some, Option.some.injEq] at hx; subst hx; rw [henc, List.length_map, hk]
    · rw [List.getElem?_map] at hx
      cases hq : d'.toList[i]? with
      | none => rw [hq] at hx; cases hx
      | some y =>
        rw [hq] at hx
        simp only [Option.map_some, Option.some.injEq] at hx
        subst hx
        have hi : i < M.length := by have := (List.getElem?_eq_some_iff.1 hq).1; omega
        have hj : j < k := by have := (List.getElem?_eq_some_iff.1 hd2).1; rw [henc, List.length_map, hk] at this; exact this
        have hbn : i * k + k ≤ M.length * k := by
          have := Nat.mul_le_mul_right k (show i + 1 ≤ M.length from hi)
          rw [Nat.succ_mul] at this; exact this
        have hcl : i * k + j < cur.size := by rw [hcs]; have := Nat.mul_le_mul_right k hcap; rw [hML] at this; omega
        have hpc : (putCells _root_.id 0 (flatK encV k d') cur)[i * k + j]? = some ((flatK encV k d')[i * k + j]!) := by
          unfold putCells
          rw [Array.getElem?_mapIdx, Array.getElem?_eq_getElem hcl]
          simp only [Option.map_some, Nat.zero_le, true_and, Nat.zero_add, Nat.sub_zero, _root_.id]
          rw [if_pos (by rw [hfs]; omega)]
        rw [hpc] at hu
        injection hu with hu
        have e1 : (i * k + j) / k = i := by rw [Nat.mul_comm, Nat.mul_add_div hk0, Nat.div_eq_of_lt hj, Nat.add_zero]
        have e2 : (i * k + j) % k = j := by rw [Nat.mul_comm, Nat.mul_add_mod, Nat.mod_eq_of_lt hj]
        rw [get_flatK _ _ _ _ (by rw [p1, hd]; omega), e1, e2] at hu
        have e3 : d'[i]! = y := by
          have h8 : i < d'.size := by rw [p1, hd]; exact hi
          rw [getElem!_pos d' i h8]
          rw [List.getElem?_eq_getElem (by rw [Array.length_toList]; exact h8)] at hq
          injection hq with hq
        rw [e3, getElem!_pos (encV y) j (by rw [hk]; exact hj)] at hu
        rw [henc, List.getElem?_map, List.getElem?_eq_getElem (by rw [hk]; exact hj)] at hd2
        simp only [Option.map_some, Option.some.injEq] at hd2
        subst hd2
        rw [← hu]
        exact .v
  have hbel : Under w1.heap.size w1 (sortWorldK encV k w b 0 n d' os) := by
    refine ⟨⟨rfl, rfl, rfl, by simp [sortWorldK, Sort.grow, w1], fun j hj => ?_⟩, Nat.le_refl _⟩
    show (w1.heap ++ os)[j]? = _
    rw [Array.getElem?_append_left hj]
  refine ⟨.tup [], _, σ, τ, _, h d'.toList hperm (fun i j x y hij hx hy => ?_), rfl, below_state hsr hbel, .tup rfl (fun j d u hd hu => by cases hd), fun hg => by cases hg⟩
  have hjs : j < d'.size := by have := (List.getElem?_eq_some_iff.1 hy).1; rwa [Array.length_toList] at this
  have h9 := p4 i j (Nat.zero_le _) hij (by rw [p1, hd] at hjs; exact hjs)
  have ex : d'[i]! = x := by
    rw [getElem!_pos d' i (by omega)]
    rw [List.getElem?_eq_getElem (by rw [Array.length_toList]; omega)] at hx
    injection hx with hx
  have ey : d'[j]! = y := by
    rw [getElem!_pos d' j hjs]
    rw [List.getElem?_eq_getElem (by rw [Array.length_toList]; omega)] at hy
    injection hy with hy
  rw [ex, ey] at h9
  have h9 : decide (cf y x < 0) = false := h9
  have := of_decide_eq_false h9
  omega
end
end Go.Proofs.YtcbpdjikdohegaaGreat.V
namespace Go.Proofs.YtcbpdjikdohegaaGreat.V
open Go.Shelf
def sortAL_ren : Go.Shelf.Ren := ⟨fun | 6 => 66 | 15 => 55 | 14 => 83 | 28 => 76 | 29 => 77 | 20 => 91 | 21 => 92 | 22 => 93 | 23 => 94 | 24 => 95 | 25 => 96 | 26 => 97 | 27 => 98 | 46 => 103 | 47 => 85 | 48 => 86 | 49 => 104 | 50 => 105 | 57 => 107 | n => n, fun | 22 => 70 | 24 => 73 | 25 => 108 | 3 => 3 | 39 => 99 | 0 => 0 | 53 => 34 | 55 => 22 | 4 => 4 | 46 => 111 | 45 => 110 | 50 => 64 | 5 => 5 | 9 => 9 | 66 => 124 | 70 => 128 | 76 => 138 | 77 => 121 | n => n, fun | n => n⟩
theorem sortAL : Go.Proofs.SlLaysF0.n6 Tryz.prog sortAL_ren := {
  mixed := by kernel_rfl
  f6 := ⟨Tryz.f66.name, by decide, Tryz.func66.trans (congrArg some (by kernel_rfl))⟩
  f14 := ⟨Tryz.f83.name, by decide, Tryz.func83.trans (congrArg some (by kernel_rfl))⟩
  f15 := Tryz.func55.trans (congrArg some (by kernel_rfl))
  f20 := ⟨Tryz.f91.name, by decide, Tryz.func91.trans (congrArg some (by kernel_rfl))⟩
  f21 := ⟨Tryz.f92.name, by decide, Tryz.func92.trans (congrArg some (by kernel_rfl))⟩
  f22 := ⟨Tryz.f93.name, by decide, Tryz.func93.trans (congrArg some (by kernel_rfl))⟩
  f23 := ⟨Tryz.f94.name, by decide, Tryz.func94.trans (congrArg some (by kernel_rfl))⟩
  f24 := ⟨Tryz.f95.name, by decide, Tryz.func95.trans (congrArg some (by kernel_rfl))⟩
  f25 := ⟨Tryz.f96.name, by decide, Tryz.func96.trans (congrArg some (by kernel_rfl))⟩
  f26 := ⟨Tryz.f97.name, by decide, Tryz.func97.trans (congrArg some (by kernel_rfl))⟩
  f27 := ⟨Tryz.f98.name, by decide, Tryz.func98.trans (congrArg some (by kernel_rfl))⟩
  f28 := Tryz.func76.trans (congrArg some (by kernel_rfl))
  f29 := Tryz.func77.trans (congrArg some (by kernel_rfl))
  f46 := ⟨Tryz.f103.name, by decide, Tryz.func103.trans (congrArg some (by kernel_rfl))⟩
  f47 := Tryz.func85.trans (congrArg some (by kernel_rfl))
  f48 := Tryz.func86.trans (congrArg some (by kernel_rfl))
  f49 := ⟨Tryz.f104.name, by decide, Tryz.func104.trans (congrArg some (by kernel_rfl))⟩
  f50 := ⟨Tryz.f105.name, by decide, Tryz.func105.trans (congrArg some (by kernel_rfl))⟩
  f57 := ⟨Tryz.f107.name, by decide, Tryz.func107.trans (congrArg some (by kernel_rfl))⟩
  t0 := Tryz.underlying0
  a0 := Tryz.isAgg0
  z0 := Tryz.sizeOf0
  v0 := Tryz.zeroValue0
  t3 := Tryz.underlying3
  a3 := Tryz.isAgg3
  z3 := Tryz.sizeOf3
  v3 := Tryz.zeroValue3
  t4 := Tryz.underlying4
  a4 := Tryz.isAgg4
  z4 := Tryz.sizeOf4
  v4 := Tryz.zeroValue4
  t5 := Tryz.underlying5
  a5 := Tryz.isAgg5
  z5 := Tryz.sizeOf5
  v5 := Tryz.zeroValue5
  t9 := Tryz.underlying9
  a9 := Tryz.isAgg9
  z9 := Tryz.sizeOf9
  v9 := Tryz.zeroValue9
  t22 := Tryz.underlying70
  a22 := Tryz.isAgg70
  z22 := Tryz.sizeOf70
  v22 := Tryz.zeroValue70
  t25 := Tryz.underlying108
  a25 := Tryz.isAgg108
  z25 := Tryz.sizeOf108
  v25 := Tryz.zeroValue108
  t39 := Tryz.underlying99
  a39 := Tryz.isAgg99
  z39 := Tryz.sizeOf99
  v39 := Tryz.zeroValue99
  t45 := Tryz.underlying110
  a45 := Tryz.isAgg110
  z45 := Tryz.sizeOf110
  v45 := Tryz.zeroValue110
  t46 := Tryz.underlying111
  a46 := Tryz.isAgg111
  z46 := Tryz.sizeOf111
  v46 := Tryz.zeroValue111
  t50 := Tryz.underlying64
  a50 := Tryz.isAgg64
  z50 := Tryz.sizeOf64
  v50 := Tryz.zeroValue64
  t53 := Tryz.underlying34
  a53 := Tryz.isAgg34
  z53 := Tryz.sizeOf34
  v53 := Tryz.zeroValue34
  t55 := Tryz.underlying22
  a55 := Tryz.isAgg22
  z55 := Tryz.sizeOf22
  v55 := Tryz.zeroValue22
  t66 := Tryz.underlying124
  a66 := Tryz.isAgg124
  z66 := Tryz.sizeOf124
  v66 := Tryz.zeroValue124
  t70 := Tryz.underlying128
  a70 := Tryz.isAgg128
  z70 := Tryz.sizeOf128
  v70 := Tryz.zeroValue128
  t76 := Tryz.underlying138
  a76 := Tryz.isAgg138
  z76 := Tryz.sizeOf138
  v76 := Tryz.zeroValue138
  t77 := Tryz.underlying121
  a77 := Tryz.isAgg121
  z77 := Tryz.sizeOf121
  v77 := Tryz.zeroValue121 }
def sortEN_ren : Go.Shelf.Ren := ⟨fun | 6 => 36 | 15 => 55 | 14 => 54 | 28 => 76 | 29 => 77 | 20 => 68 | 21 => 69 | 22 => 70 | 23 => 71 | 24 => 72 | 25 => 73 | 26 => 74 | 27 => 75 | 46 => 84 | 47 => 85 | 48 => 86 | 49 => 87 | 50 => 88 | 57 => 99 | n => n, fun | 22 => 31 | 24 => 39 | 25 => 77 | 3 => 3 | 39 => 99 | 0 => 0 | 53 => 34 | 55 => 22 | 4 => 4 | 46 => 111 | 45 => 110 | 50 => 64 | 5 => 5 | 9 => 9 | 66 => 124 | 70 => 128 | 76 => 138 | 77 => 121 | n => n, fun | n => n⟩
theorem sortEN : Go.Proofs.SlLaysF0.n6 Tryz.prog sortEN_ren := {
  mixed := by kernel_rfl
  f6 := ⟨Tryz.f36.name, by decide, Tryz.func36.trans (congrArg some (by kernel_rfl))⟩
  f14 := ⟨Tryz.f54.name, by decide, Tryz.func54.trans (congrArg some (by kernel_rfl))⟩
  f15 := Tryz.func55.trans (congrArg some (by kernel_rfl))
  f20 := ⟨Tryz.f68.name, by decide, Tryz.func68.trans (congrArg some (by kernel_rfl))⟩
  f21 := ⟨Tryz.f69.name, by decide, Tryz.func69.trans (congrArg some (by kernel_rfl))⟩
  f22 := ⟨Tryz.f70.name, by decide, Tryz.func70.trans (congrArg some (by kernel_rfl))⟩
  f23 := ⟨Tryz.f71.name, by decide, Tryz.func71.trans (congrArg some (by kernel_rfl))⟩
  f24 := ⟨Tryz.f72.name, by decide, Tryz.func72.trans (congrArg some (by kernel_rfl))⟩
  f25 := ⟨Tryz.f73.name, by decide, Tryz.func73.trans (congrArg some (by kernel_rfl))⟩
  f26 := ⟨Tryz.f74.name, by decide, Tryz.func74.trans (congrArg some (by kernel_rfl))⟩
  f27 := ⟨Tryz.f75.name, by decide, Tryz.func75.trans (congrArg some (by kernel_rfl))⟩
  f28 := Tryz.func76.trans (congrArg some (by kernel_rfl))
  f29 := Tryz.func77.trans (congrArg some (by kernel_rfl))
  f46 := ⟨Tryz.f84.name, by decide, Tryz.func84.trans (congrArg some (by kernel_rfl))⟩
  f47 := Tryz.func85.trans (congrArg some (by kernel_rfl))
  f48 := Tryz.func86.trans (congrArg some (by kernel_rfl))
  f49 := ⟨Tryz.f87.name, by decide, Tryz.func87.trans (congrArg some (by kernel_rfl))⟩
  f50 := ⟨Tryz.f88.name, by decide, Tryz.func88.trans (congrArg some (by kernel_rfl))⟩
  f57 := ⟨Tryz.f99.name, by decide, Tryz.func99.trans (congrArg some (by kernel_rfl))⟩
  t0 := Tryz.underlying0
  a0 := Tryz.isAgg0
  z0 := Tryz.sizeOf0
  v0 := Tryz.zeroValue0
  t3 := Tryz.underlying3
  a3 := Tryz.isAgg3
  z3 := Tryz.sizeOf3
  v3 := Tryz.zeroValue3
  t4 := Tryz.underlying4
  a4 := Tryz.isAgg4
  z4 := Tryz.sizeOf4
  v4 := Tryz.zeroValue4
  t5 := Tryz.underlying5
  a5 := Tryz.isAgg5
  z5 := Tryz.sizeOf5
  v5 := Tryz.zeroValue5
  t9 := Tryz.underlying9
  a9 := Tryz.isAgg9
  z9 := Tryz.sizeOf9
  v9 := Tryz.zeroValue9
  t22 := Tryz.underlying31
  a22 := Tryz.isAgg31
  z22 := Tryz.sizeOf31
  v22 := Tryz.zeroValue31
  t25 := Tryz.underlying77
  a25 := Tryz.isAgg77
  z25 := Tryz.sizeOf77
  v25 := Tryz.zeroValue77
  t39 := Tryz.underlying99
  a39 := Tryz.isAgg99
  z39 := Tryz.sizeOf99
  v39 := Tryz.zeroValue99
  t45 := Tryz.underlying110
  a45 := Tryz.isAgg110
  z45 := Tryz.sizeOf110
  v45 := Tryz.zeroValue110
  t46 := Tryz.underlying111
  a46 := Tryz.isAgg111
  z46 := Tryz.sizeOf111
  v46 := Tryz.zeroValue111
  t50 := Tryz.underlying64
  a50 := Tryz.isAgg64
  z50 := Tryz.sizeOf64
  v50 := Tryz.zeroValue64
  t53 := Tryz.underlying34
  a53 := Tryz.isAgg34
  z53 := Tryz.sizeOf34
  v53 := Tryz.zeroValue34
  t55 := Tryz.underlying22
  a55 := Tryz.isAgg22
  z55 := Tryz.sizeOf22
  v55 := Tryz.zeroValue22
  t66 := Tryz.underlying124
  a66 := Tryz.isAgg124
  z66 := Tryz.sizeOf124
  v66 := Tryz.zeroValue124
  t70 := Tryz.underlying128
  a70 := Tryz.isAgg128
  z70 := Tryz.sizeOf128
  v70 := Tryz.zeroValue128
  t76 := Tryz.underlying138
  a76 := Tryz.isAgg138
  z76 := Tryz.sizeOf138
  v76 := Tryz.zeroValue138
  t77 := Tryz.underlying121
  a77 := Tryz.isAgg121
  z77 := Tryz.sizeOf121
  v77 := Tryz.zeroValue121 }
end Go.Proofs.YtcbpdjikdohegaaGreat.V
