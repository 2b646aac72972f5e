/-
  Calls whose answer lies in memory of their own. Conditions: the table of types says what the program's says; functions are entered; plans are ones.
  Contracts with an object of one's own that is turned: its cells before and behind. Conditions: the table of types says what the program's says; functions are entered; plans are ones.
  Words for numbers, and what stands first in a row. No condition.
  Maps of one's own, whose keys and values are numbers: made, looked up, written, thinned. Conditions: the type's keys and values are numbers of 64 bits.
  Strings: a range over one, bytes turned to one. Conditions: the table of types says what the program's says.
  Strings by their bytes, as numbers. No condition.
  Contracts that only look: nothing that was there turns, the answer lies in new memory. Conditions: the table of types says what the program's says; functions are entered; plans are ones.
  Contracts that answer a new row of the caller's own. Conditions: the table of types says what the program's says; functions are entered; plans are ones.
  A call gone into, told behind it by other numbers: places below a number stay, all others may be named anew. Conditions: the caller's slots name places below that number alone.
  A small number turned to a text of one byte. Conditions: the table of types says what the program's says; the number is below 128.
-/
import Derived.Test.YtfghccppoilfhaaVm
import Derived.IntWalk
import Derived.MapKept
import Derived.Laws.BytesString
import Derived.Lib.Strings
import Derived.Laws.Runes
namespace Go.Proofs.Ytfghccppoilfhaa.V
open Go.RowKit

def geOk : Nat → Nat → D → Bool
  | 0, _, _ => false
  | _ + 1, _, .v _ => true
  | _ + 1, _, .rows _ _ _ _ => true
  | _ + 1, _, .emp => true
  | _ + 1, _, .junk => true
  | _ + 1, n, .loc id _ => Nat.ble n id
  | _ + 1, n, .grow id => Nat.ble n id
  | _ + 1, n, .op id _ _ _ => Nat.ble n id
  | _ + 1, n, .win id _ _ _ => Nat.ble n id
  | _ + 1, n, .cut id _ => Nat.ble n id
  | _ + 1, n, .cap id _ _ => Nat.ble n id
  | _ + 1, n, .asl id _ _ => Nat.ble n id
  | k + 1, n, .agg l => l.all (geOk k n)
  | k + 1, n, .tup l => l.all (geOk k n)
  | k + 1, n, .fp l => l.all (geOk k n)
  | k + 1, n, .lit _ L => L.all fun l => l.all (geOk k n)
  | k + 1, n, .fn _ a b => a.all (geOk k n) && b.all (geOk k n)
  | k + 1, n, .iface _ d => geOk k n d
  | _ + 1, n, .mapr id => Nat.ble n id
  | _ + 1, _, .sp _ => true

def Ctx.ge (C : Ctx) (n : Nat) : Ctx := ⟨C.w, C.ok, fun id off v => n ≤ id ∧ C.loc id off v, fun id v => n ≤ id ∧ C.grow id v, fun id off v => n ≤ id ∧ C.op id off v⟩

theorem ge_rep {n : Nat} : ∀ (k : Nat) (d : D) (C : Ctx) (v : Value), geOk k n d = true → Rep C d v → Rep (C.ge n) d v := by
  intro k
  induction k with
  | zero => intro d C v h; simp [geOk] at h
  | succ k ih =>
    intro d C v h hr
    cases hr with
    | v => exact .v
    | agg hs hh => exact .agg hs fun j d u a b => ih d C u (all_at (by simpa [geOk] using h) a) (hh j d u a b)
    | tup hs hh => exact .tup hs fun j d u a b => ih d C u (all_at (by simpa [geOk] using h) a) (hh j d u a b)
    | rows b o g hc hp hl hcell hrep => exact .rows b o g hc hp hl hcell hrep
    | lit b o g hc hp hl hcell hrep =>
      simp only [geOk, List.all_eq_true] at h
      exact .lit b o g hc hp hl hcell fun i x j d hx hd => ih d C _ (h x (List.mem_of_getElem? hx) d (List.mem_of_getElem? hd)) (hrep i x j d hx hd)
    | emp => exact .emp
    | fp g hk hcell hrep => exact .fp g hk hcell fun j d hd => ih d C _ (all_at (by simpa [geOk] using h) hd) (hrep j d hd)
    | loc hh => exact .loc ⟨Nat.le_of_ble_eq_true h, hh⟩
    | grow hh => exact .grow ⟨Nat.le_of_ble_eq_true h, hh⟩
    | op hh => exact .op ⟨Nat.le_of_ble_eq_true h, hh⟩
    | win hh hc => exact .win (fun hn => ⟨Nat.le_of_ble_eq_true h, hh hn⟩) hc
    | cut hh hn => exact .cut ⟨Nat.le_of_ble_eq_true h, hh⟩ hn
    | cap hh hn => exact .cap ⟨Nat.le_of_ble_eq_true h, hh⟩ hn
    | asl hh => exact .asl ⟨Nat.le_of_ble_eq_true h, hh⟩
    | fn hs ht hh hh' =>
      simp only [geOk, List.all_eq_true, Bool.and_eq_true] at h
      exact .fn hs ht (fun j d u a b => ih d C u (h.1 d (List.mem_of_getElem? a)) (hh j d u a b)) fun j d u a b => ih d C u (h.2 d (List.mem_of_getElem? a)) (hh' j d u a b)
    | iface hh => exact .iface (ih _ C _ h hh)
    | mapr hh => exact .mapr ⟨Nat.le_of_ble_eq_true h, hh⟩
    | sp S hA hS => exact .sp S hA hS
    | junk => exact .junk

def loGe (n : Nat) : LO → Bool
  | .cells _ l => l.all (geOk 6 n)
  | .grow _ _ _ _ _ => true
  | .obj _ => true
  | .dead => true
def idsGe (n : Nat) : List (Nat × LO) → Bool
  | [] => true
  | (i, o) :: r => Nat.ble n i && loGe n o && idsGe n r
def freshOk (n : Nat) (H : List (Nat × LO)) (d : D) : Bool := idsGe n H && geOk 6 n d
theorem idsGe_get {n : Nat} : ∀ {H : List (Nat × LO)}, idsGe n H = true → ∀ id o, lget H id = some o → n ≤ id ∧ loGe n o = true
  | [], _, _, _, h => by cases h
  | (i, x) :: r, hh, id, o, h => by
    simp only [idsGe, Bool.and_eq_true] at hh
    by_cases hi : id = i
    · subst hi
      rw [lget_same] at h
      injection h with h; subst h
      exact ⟨Nat.le_of_ble_eq_true hh.1.1, hh.1.2⟩
    · rw [lget_ne _ _ hi] at h
      exact idsGe_get hh.2 id o h
theorem lget_append {β : Type 1} : ∀ (A B : List (Nat × β)) (i : Nat), lget (A ++ B) i = match lget A i with
    | some x => some x
    | none => lget B i
  | [], B, i => rfl
  | (k, x) :: r, B, i => by
    by_cases hi : i = k
    · subst hi
      rw [List.cons_append, lget_same, lget_same]
    · rw [List.cons_append, lget_ne _ _ hi, lget_ne _ _ hi, lget_append r B i]

section
variable {P : Program} {tt : TT} {pl : Plans} {s : St} {K : D → St → Prop} {f : FuncId} {args : List D}

def freshEnv (E : Env) (s : St) (σ : Nat → Nat) (τ : Nat → Value) (w : World) (n : Nat) : Env := ⟨w, (ctxOf E s.H s.nx σ τ w).ok, fun _ => False, n, fun _ _ _ => False⟩

theorem merge_at {E : Env} {σ : Nat → Nat} {τ : Nat → Value} {a : Act} {w : World} (hs : SR E s σ τ a w) {n : Nat} {H1 : List (Nat × LO)} {nx1 : Nat} {σ1 : Nat → Nat} {τ1 : Nat → Value} {w1 : World} (h2 : HR (freshEnv E s σ τ w n) H1 nx1 σ1 τ1 w1) (hfr : idsGe s.nx H1 = true) (hnx : s.nx ≤ nx1) :
    Below w.heap.size w w1 ∧ ∃ σ2 τ2, ((∀ id, id < s.nx → σ2 id = σ id ∧ τ2 id = τ id) ∧ ∀ id, s.nx ≤ id → σ2 id = σ1 id ∧ τ2 id = τ1 id) ∧ SR E ⟨s.F, H1 ++ s.H, nx1, s.G⟩ σ2 τ2 a w1 ∧ ∀ d v, geOk 6 s.nx d = true → Rep (ctxOf (freshEnv E s σ τ w n) H1 nx1 σ1 τ1 w1) d v → Rep (ctxOf E (H1 ++ s.H) nx1 σ2 τ2 w1) d v := by
  have hbel : Under w.heap.size w w1 := ⟨⟨h2.kept.os, h2.kept.tape, h2.kept.output, h2.kept.size, fun k hk => h2.kept.block k hk (fun h => h)⟩, h2.kept.drawn⟩
  have hge := idsGe_get hfr
  let σ2 : Nat → Nat := fun id => if id < s.nx then σ id else σ1 id
  let τ2 : Nat → Value := fun id => if id < s.nx then τ id else τ1 id
  have σlo : ∀ id, id < s.nx → σ2 id = σ id := fun id h => if_pos h
  have σhi : ∀ id, s.nx ≤ id → σ2 id = σ1 id := fun id h => if_neg (by omega)
  have τlo : ∀ id, id < s.nx → τ2 id = τ id := fun id h => if_pos h
  have τhi : ∀ id, s.nx ≤ id → τ2 id = τ1 id := fun id h => if_neg (by omega)
  -- which object is whose
  have hget : ∀ id o, lget (H1 ++ s.H) id = some o → (s.nx ≤ id ∧ loGe s.nx o = true ∧ lget H1 id = some o) ∨ (id < s.nx ∧ lget s.H id = some o) := by
    intro id o ho
    rw [lget_append] at ho
    cases hq : lget H1 id with
    | some x =>
      rw [hq] at ho
      injection ho with ho; subst ho
      exact .inl ⟨(hge id x hq).1, (hge id x hq).2, rfl⟩
    | none =>
      rw [hq] at ho
      exact .inr ⟨hs.heap.below id o ho, ho⟩
  have hown : ∀ id b, owned (H1 ++ s.H) σ2 τ2 id b → (s.nx ≤ id ∧ owned H1 σ1 τ1 id b) ∨ (id < s.nx ∧ owned s.H σ τ id b) := by
    intro id b ho
    rcases ho with ⟨el, l, h6, h7⟩ | ⟨α, el, e, enc, L, h6, h7⟩ | ⟨o, h6, h7⟩
    rotate_left 2
    · rcases hget id _ h6 with ⟨h8, _, h9⟩ | ⟨h8, h9⟩
      · exact .inl ⟨h8, .inr (.inr ⟨o, h9, by rw [← σhi id h8]; exact h7⟩)⟩
      · exact .inr ⟨h8, .inr (.inr ⟨o, h9, by rw [← σlo id h8]; exact h7⟩)⟩
    · rcases hget id _ h6 with ⟨h8, _, h9⟩ | ⟨h8, h9⟩
      · exact .inl ⟨h8, .inl ⟨el, l, h9, by rw [← σhi id h8]; exact h7⟩⟩
      · exact .inr ⟨h8, .inl ⟨el, l, h9, by rw [← σlo id h8]; exact h7⟩⟩
    · rcases hget id _ h6 with ⟨h8, _, h9⟩ | ⟨h8, h9⟩
      · exact .inl ⟨h8, .inr (.inl ⟨α, el, e, enc, L, h9, by rw [← τhi id h8]; exact h7⟩)⟩
      · exact .inr ⟨h8, .inr (.inl ⟨α, el, e, enc, L, h9, by rw [← τlo id h8]; exact h7⟩)⟩
  have hnew : ∀ id b, owned H1 σ1 τ1 id b → w.heap.size ≤ b := by
    intro id b ho
    rcases ho with ⟨el, l, h6, rfl⟩ | ⟨α, el, e, enc, L, h6, h7⟩ | ⟨o, h6, h7⟩
    rotate_left 2
    · exact (((h2.obj id o h6).1 b h7).1).elim (fun h => h.elim) fun h => h
    · exact ((h2.cells id el l h6).1).elim (fun h => h.elim) fun h => h
    · exact ((h2.grow id α el e enc L h6).1 b h7).elim (fun h => h.elim) fun h => h
  have le1 : (ctxOf E s.H s.nx σ τ w).Le (ctxOf E (H1 ++ s.H) nx1 σ2 τ2 w1) := by
    refine ⟨fun b o hk hc => (hbel.block b hk.2.1).trans hc, fun b hk => ⟨hk.1, Nat.lt_of_lt_of_le hk.2.1 hbel.size, fun id ho => ?_⟩, fun id off v hv => ⟨Nat.lt_of_lt_of_le hv.1 hnx, by rw [σlo id hv.1]; exact hv.2⟩, fun id v hv => ⟨Nat.lt_of_lt_of_le hv.1 hnx, by rw [τlo id hv.1]; exact hv.2⟩,
      fun id off v hv => ⟨Nat.lt_of_lt_of_le hv.1 hnx, by rw [τlo id hv.1]; exact hv.2⟩⟩
    rcases hown id b ho with ⟨_, h6⟩ | ⟨_, h6⟩
    · have := hnew id b h6; have := hk.2.1; omega
    · exact hk.2.2 id h6
  have le2 : ((ctxOf (freshEnv E s σ τ w n) H1 nx1 σ1 τ1 w1).ge s.nx).Le (ctxOf E (H1 ++ s.H) nx1 σ2 τ2 w1) := by
    refine ⟨fun _ _ _ h => h, fun b hk => ⟨?_, hk.2.1, fun id ho => ?_⟩, fun id off v hv => ⟨hv.2.1, by rw [σhi id hv.1]; exact hv.2.2⟩, fun id v hv => ⟨hv.2.1, by rw [τhi id hv.1]; exact hv.2.2⟩, fun id off v hv => ⟨hv.2.1, by rw [τhi id hv.1]; exact hv.2.2⟩⟩
    · rcases hk.1 with h6 | h6 | h6
      · exact h6.1
      · exact h6.elim
      · exact .inr (.inr (Nat.le_trans hs.heap.kept.size h6))
    · rcases hown id b ho with ⟨_, h6⟩ | ⟨_, h6⟩
      · exact hk.2.2 id h6
      · rcases hk.1 with h7 | h7 | h7
        · exact h7.2.2 id h6
        · exact h7.elim
        · have := owned_lt hs.heap h6
          have h7 : w.heap.size ≤ b := h7
          omega
  refine ⟨hbel.toBelow, σ2, τ2, ⟨fun id h => ⟨σlo id h, τlo id h⟩, fun id h => ⟨σhi id h, τhi id h⟩⟩, ⟨⟨hs.heap.kept.below hbel, hs.heap.few, fun id el l h6 => ?_, fun id α el e enc L h6 => ?_, fun i j b h6 h7 => ?_, fun id o h6 => ?_, fun id => ?_, fun id o h6 => by
    rcases hget id _ h6 with ⟨h8, h9, h10⟩ | ⟨h8, h10⟩
    · obtain ⟨h11, h12⟩ := h2.obj id o h10
      rw [σhi id h8]
      exact ⟨fun k hk => ⟨.inr (Nat.le_trans hs.heap.kept.size ((h11 k hk).1.elim (fun h => h.elim) fun h => h)), (h11 k hk).2⟩, OA.at_mono h12 (fun _ _ => rfl) (Nat.le_refl _) le2.still⟩
    · obtain ⟨h11, h12⟩ := hs.heap.obj id o h10
      rw [σlo id h8]
      exact ⟨fun k hk => ⟨(h11 k hk).1, Nat.lt_of_lt_of_le (h11 k hk).2 hbel.size⟩, OA.at_mono h12 (fun k hk => hbel.block k (h11 k hk).2) hbel.size le1.still⟩⟩, hs.defers, hs.size, fun i d hd => (hs.slots i d hd).mono le1, hs.ghost_le (s' := ⟨s.F, H1 ++ s.H, nx1, s.G⟩) rfl le1, Nat.le_trans hs.room hnx⟩,
    fun d v hd hr => (ge_rep 6 _ _ _ hd hr).mono le2⟩
  · rcases hget id _ h6 with ⟨h8, h9, h10⟩ | ⟨h8, h10⟩
    · obtain ⟨h11, c1, h12, h13, h14⟩ := h2.cells id el l h10
      rw [σhi id h8]
      refine ⟨.inr (Nat.le_trans hs.heap.kept.size (h11.elim (fun h => h.elim) fun h => h)), c1, h12, h13, fun j d u hd hu => (ge_rep 6 _ _ _ ?_ (h14 j d u hd hu)).mono le2⟩
      simp only [loGe] at h9
      exact all_at h9 hd
    · obtain ⟨h11, c1, h12, h13, h14⟩ := hs.heap.cells id el l h10
      rw [σlo id h8]
      exact ⟨h11, c1, (hbel.block _ (Array.getElem?_eq_some_iff.1 h12).1).trans h12, h13, fun j d u hd hu => (h14 j d u hd hu).mono le1⟩
  · rcases hget id _ h6 with ⟨h8, h9, h10⟩ | ⟨h8, h10⟩
    · obtain ⟨h11, xs, h12, h13, h14⟩ := h2.grow id α el e enc L h10
      rw [τhi id h8]
      exact ⟨fun g hg => .inr (Nat.le_trans hs.heap.kept.size ((h11 g hg).elim (fun h => h.elim) fun h => h)), xs, h12, h13, fun i x j d u hx hd hu => (h14 i x j d u hx hd hu).mono (le2.still)⟩
    · obtain ⟨h11, xs, h12, h13, h14⟩ := hs.heap.grow id α el e enc L h10
      rw [τlo id h8]
      exact ⟨h11, xs, own_below h12 hbel.toBelow, h13, fun i x j d u hx hd hu => (h14 i x j d u hx hd hu).mono le1.still⟩
  · rcases hown i b h6 with ⟨h8, h9⟩ | ⟨h8, h9⟩ <;> rcases hown j b h7 with ⟨h10, h11⟩ | ⟨h10, h11⟩
    · exact h2.apart i j b h9 h11
    · have := hnew i b h9; have := owned_lt hs.heap h11; omega
    · have := hnew j b h11; have := owned_lt hs.heap h9; omega
    · exact hs.heap.apart i j b h9 h11
  · rcases hget id _ h6 with ⟨_, _, h10⟩ | ⟨h8, _⟩
    · exact h2.below id o h10
    · exact Nat.lt_of_lt_of_le h8 hnx
  · by_cases hid : id < s.nx
    · rw [τlo id hid]; exact hs.heap.slices id
    · rw [τhi id (by omega)]; exact h2.slices id
theorem merge_state {E : Env} {σ : Nat → Nat} {τ : Nat → Value} {a : Act} {w : World} (hs : SR E s σ τ a w) {n : Nat} {H1 : List (Nat × LO)} {nx1 : Nat} {σ1 : Nat → Nat} {τ1 : Nat → Value} {w1 : World} (h2 : HR (freshEnv E s σ τ w n) H1 nx1 σ1 τ1 w1) (hfr : idsGe s.nx H1 = true) (hnx : s.nx ≤ nx1) :
    Below w.heap.size w w1 ∧ ∃ σ2 τ2, SR E ⟨s.F, H1 ++ s.H, nx1, s.G⟩ σ2 τ2 a w1 ∧ ∀ d v, geOk 6 s.nx d = true → Rep (ctxOf (freshEnv E s σ τ w n) H1 nx1 σ1 τ1 w1) d v → Rep (ctxOf E (H1 ++ s.H) nx1 σ2 τ2 w1) d v := by
  obtain ⟨h1, σ2, τ2, _, h2, h3⟩ := merge_at hs h2 hfr hnx
  exact ⟨h1, σ2, τ2, h2, h3⟩

theorem fresh_start {E : Env} {σ : Nat → Nat} {τ : Nat → Value} {a : Act} {w : World} (hs : SR E s σ τ a w) {n : Nat} {args' : List Value} (hr : reps (ctxOf E s.H s.nx σ τ w) args args') (hlen : args'.length ≤ n) (hcut : args.all (cutOk 6 0) = true) :
    SR (freshEnv E s σ τ w n) ⟨enumD args 0, [], s.nx, ([], 0)⟩ σ τ { tmps := args'.toArray ++ Array.replicate (n - args'.toArray.size) undef, defers := [] } w := by
  have hr0 : reps (ctxOf (freshEnv E s σ τ w n) [] s.nx σ τ w) args args' := ⟨hr.1, fun j d u hd hu => (cut_rep 6 d _ u (all_at hcut hd) (hr.2 j d u hd hu)).mono
    ⟨fun _ _ _ h => h, (fun b hb => ⟨.inl hb, hb.2.1, fun id ho => by rcases ho with ⟨_, _, h, _⟩ | ⟨_, _, _, _, _, h, _⟩ | ⟨_, h, _⟩ <;> cases h⟩), fun _ _ _ h => absurd h.1 (Nat.not_lt_zero _), fun _ _ h => absurd h.1 (Nat.not_lt_zero _), fun _ _ _ h => absurd h.1 (Nat.not_lt_zero _)⟩⟩
  exact ⟨⟨⟨rfl, rfl, rfl, Nat.le_refl _, fun _ _ _ => rfl, Nat.le_refl _⟩, fun b hb => ⟨fun h => h, hb.2.1⟩, (fun id el l h => by cases h), (fun id α el e enc L h => by cases h), (fun i j b h => by rcases h with ⟨_, _, h, _⟩ | ⟨_, _, _, _, _, h, _⟩ | ⟨_, h, _⟩ <;> cases h), (fun id o h => by cases h), hs.heap.slices, fun id o h => by cases h⟩,
      rfl, by simp [freshEnv]; omega, fun i d hd => enter_slots hr0 n i d hd, fun _ _ _ h => h.elim, Nat.zero_le _⟩

theorem CallVC.fresh {g : Bool} (htt : ttOk P tt) (hb : entersAll P = true) (hm : P.follows .mixedOrders = true) {fn : Func} {c : Code} (hfn : P.funcs[f]? = some fn) (hc : fn.body = some c) (hok : codeOk pl fn.ntmps c = true) (hn : args.length ≤ fn.ntmps) (hcut : args.all (cutOk 6 0) = true)
    (h : wpc P tt pl c ⟨enumD args 0, [], s.nx, ([], 0)⟩ fun e s' => endK e (resK tt s' fn.results.toList fun l => seeD (oneD l) fun d => freshOk s.nx s'.H d = true ∧ Nat.ble s.nx s'.nx = true ∧ K d ⟨s.F, s'.H ++ s.H, s'.nx, s.G⟩)) : CallVC P g f args s K := by
  refine ⟨⟨fn, hfn, by rw [hc]; rfl⟩, fun E σ τ a w args' hs hr => ?_⟩
  refine calls_of_wp hfn hc (wp_mono (wpc_sound (E := freshEnv E s σ τ w fn.ntmps) htt hb hm c hok _ _ _ _ _ w h (fresh_start hs hr (by rw [hr.1]; exact hn) hcut)) fun e a1 w1 hh => ?_)
  obtain ⟨x, s1, σ1, τ1, rfl, h1, h2⟩ := hh
  have fin : resK tt s1 fn.results.toList (fun l => seeD (oneD l) fun d => freshOk s.nx s1.H d = true ∧ Nat.ble s.nx s1.nx = true ∧ K d ⟨s.F, s1.H ++ s.H, s1.nx, s.G⟩) →
      a1.defers = [] ∧ ∃ v, (results fn a1.tmps).run P w1 = .ok v w1 ∧ ∃ d s' σ' τ' u, K d s' ∧ Ending.returned v = .returned u ∧ SR E s' σ' τ' a w1 ∧ Rep (ctxOf E s'.H s'.nx σ' τ' w1) d u ∧ (g = true → Below w.heap.size w w1) := by
    intro hres
    obtain ⟨l, vs, h3, h4, h5⟩ := resK_run htt h2 _ _ hres
    rw [seeD_eq] at h3
    obtain ⟨hfr, hnx, hk⟩ := h3
    simp only [freshOk, Bool.and_eq_true] at hfr
    obtain ⟨hbel, σ2, τ2, h6, h7⟩ := merge_state hs h2.heap hfr.1 (Nat.le_of_ble_eq_true hnx)
    exact ⟨h2.defers, _, results_at h5, _, _, σ2, τ2, _, hk, rfl, h6, h7 _ _ hfr.2 (oneD_rep h4), fun _ => hbel⟩
  cases x with
  | normal => exact fin h1
  | ret => exact fin h1
  | exit i => exact h1.elim

end
end Go.Proofs.Ytfghccppoilfhaa.V
namespace Go.Proofs.Ytfghccppoilfhaa.V
open Go.RowKit

structure Turned (b : Nat) (w w' : World) : Prop where
  os : w'.os = w.os
  tape : w'.tape = w.tape
  output : w'.output = w.output
  size : w.heap.size ≤ w'.heap.size
  block : ∀ k, k < w.heap.size → k ≠ b → w'.heap[k]? = w.heap[k]?
  drawn : w.drawn ≤ w'.drawn

def newB (B : Nat → Prop) (w w' : World) : Nat → Prop := fun b => B b ∨ (w.heap.size ≤ b ∧ b < w'.heap.size)

def Ob (P : Program) (f : FuncId) (el : TypeId) (X rest : List D) (Q : D → List D → Prop) : Prop :=
  hasBody P f ∧ ∀ (w : World) (B : Nat → Prop) (b : Nat) (c : Array Value) (args' : List Value), (∀ k, B k → k < w.heap.size ∧ k ≠ b) → w.heap[b]? = some (.cells c el (0, 0)) → reps (baseCtx w B) X c.toList → reps (baseCtx w B) rest args' →
    Calls P f (Value.pointer (some ⟨b, 0, none⟩) :: args').toArray w fun e w' => ∃ d v X' c', Q d X' ∧ e = .returned v ∧ Turned b w w' ∧ w'.heap[b]? = some (.cells c' el (0, 0)) ∧ reps (baseCtx w' (newB B w w')) X' c'.toList ∧ Rep (baseCtx w' (newB B w w')) d v

theorem Ob.mono {P : Program} {f : FuncId} {el : TypeId} {X rest : List D} {Q Q' : D → List D → Prop} (h : Ob P f el X rest Q) (hq : ∀ d X', Q d X' → Q' d X') : Ob P f el X rest Q' :=
  ⟨h.1, fun w B b c args' h1 h2 h3 h4 => (h.2 w B b c args' h1 h2 h3 h4).mono fun _ _ ⟨d, v, X', c', h5, h6⟩ => ⟨d, v, X', c', hq d X' h5, h6⟩⟩

def obAt (el : TypeId) (s : St) (K : List D → Prop) : Prop := match lget s.H 0 with
  | some (.cells el' X') => match Nat.beq el' el with
    | true => K X'
    | false => False
  | _ => False
theorem obAt_spec {el : TypeId} {s : St} {K : List D → Prop} (h : obAt el s K) : ∃ X', lget s.H 0 = some (.cells el X') ∧ K X' := by
  unfold obAt at h
  split at h
  · rename_i el' X' h1
    split at h
    · rename_i h2
      have := Nat.eq_of_beq_eq_true h2
      subst this
      exact ⟨X', h1, h⟩
    · exact h.elim
  · exact h.elim

theorem owned_dead {H : List (Nat × LO)} {σ : Nat → Nat} {τ : Nat → Value} {id b : Nat} (h : owned ((0, .dead) :: H) σ τ id b) : id ≠ 0 ∧ owned H σ τ id b := by
  by_cases hi : id = 0
  · subst hi
    rcases h with ⟨el, l, h1, _⟩ | ⟨α, el, e, enc, L, h1, _⟩ | ⟨o, h1, _⟩ <;> (rw [lget_same] at h1; cases h1)
  · refine ⟨hi, ?_⟩
    rcases h with ⟨el, l, h1, h2⟩ | ⟨α, el, e, enc, L, h1, h2⟩ | ⟨o, h1, h2⟩
    rotate_left 2
    · rw [lget_ne _ _ hi] at h1; exact .inr (.inr ⟨o, h1, h2⟩)
    · rw [lget_ne _ _ hi] at h1; exact .inl ⟨el, l, h1, h2⟩
    · rw [lget_ne _ _ hi] at h1; exact .inr (.inl ⟨α, el, e, enc, L, h1, h2⟩)

section
variable {P : Program} {tt : TT} {pl : Plans} {s : St} {K : D → St → Prop} {f : FuncId}

def obEnv (w : World) (B : Nat → Prop) (b n : Nat) : Env := ⟨w, B, fun k => k = b, n, fun G d v => G = ([0], 1) ∧ d = .loc 0 0 ∧ v = .pointer (some ⟨b, 0, none⟩)⟩
def elder (w w1 : World) : World := { w1 with heap := w1.heap.extract 0 w.heap.size }

theorem ob_end {w w1 : World} {B : Nat → Prop} {b n : Nat} {s1 : St} {σ : Nat → Nat} {τ : Nat → Value} {a : Act} (hs : SR (obEnv w B b n) s1 σ τ a w1) {el : TypeId} {X : List D} (h0 : lget s1.H 0 = some (.cells el X)) (hb : σ 0 = b) (hB : ∀ k, B k → k < w.heap.size) :
    ∀ (k : Nat) (d : D) (v : Value), Rep (ctxOf (obEnv w B b n) s1.H s1.nx σ τ w1) d v → Rep (baseCtx w1 (newB B w w1)) (snapD k ((0, .dead) :: s1.H) d) v := by
  have hsz : (elder w w1).heap.size = w.heap.size := by
    show (w1.heap.extract 0 w.heap.size).size = _
    have := hs.heap.kept.size
    have h9 : w.heap.size ≤ w1.heap.size := this
    simp [Array.size_extract]; omega
  have hown0 : owned s1.H σ τ 0 b := .inl ⟨_, _, h0, hb.symm⟩
  have hle : (ctxOf (obEnv w B b n) s1.H s1.nx σ τ w1).Le (ctxOf ⟨elder w w1, B, fun _ => False, 0, fun _ _ _ => False⟩ ((0, .dead) :: s1.H) s1.nx σ τ w1) :=
    ⟨fun _ _ _ h => h, fun k hk => ⟨hk.1.elim .inl fun h => .inr (.inr (h.elim (fun h => absurd (by rw [show k = b from h]; exact hown0) (hk.2.2 0)) fun h => by show (elder w w1).heap.size ≤ k; rw [hsz]; exact h)), hk.2.1, fun id ho => hk.2.2 id (owned_dead ho).2⟩, fun _ _ _ h => h, fun _ _ h => h, fun _ _ _ h => h⟩
  have hr : HR ⟨elder w w1, B, fun _ => False, 0, fun _ _ _ => False⟩ ((0, .dead) :: s1.H) s1.nx σ τ w1 := by
    refine ⟨⟨rfl, rfl, rfl, ?_, fun k hk _ => ?_, Nat.le_refl _⟩, fun k hk => ⟨fun h => h, by show k < (elder w w1).heap.size; rw [hsz]; exact hB k hk⟩, fun id el' l h => ?_, fun id α el' e enc L h => ?_, fun i j k h1 h2 => hs.heap.apart i j k (owned_dead h1).2 (owned_dead h2).2, fun id o h => ?_, hs.heap.slices, fun id o h => by
      have hi : id ≠ 0 := by rintro rfl; rw [lget_same] at h; cases h
      rw [lget_ne _ _ hi] at h
      obtain ⟨h1, h2⟩ := hs.heap.obj id o h
      refine ⟨fun k hk => ⟨.inr ?_, (h1 k hk).2⟩, OA.at_mono h2 (fun _ _ => rfl) (Nat.le_refl _) hle.still⟩
      show (elder w w1).heap.size ≤ _
      rw [hsz]
      rcases (h1 k hk).1 with h3 | h3
      · have h3 : k = b := h3
        subst h3
        exact absurd (hs.heap.apart id 0 k (.inr (.inr ⟨_, h, hk⟩)) hown0) hi
      · exact h3⟩
    · show (elder w w1).heap.size ≤ _; rw [hsz]; exact hs.heap.kept.size
    · have hk : k < (elder w w1).heap.size := hk
      rw [hsz] at hk
      have h9 : w.heap.size ≤ w1.heap.size := hs.heap.kept.size
      show w1.heap[k]? = (w1.heap.extract 0 w.heap.size)[k]?
      rw [Array.getElem?_extract]
      rw [if_pos (by omega)]
      simp
    · have hi : id ≠ 0 := by rintro rfl; rw [lget_same] at h; cases h
      rw [lget_ne _ _ hi] at h
      obtain ⟨h1, c, h2, h3, h4⟩ := hs.heap.cells id el' l h
      refine ⟨.inr ?_, c, h2, h3, fun j d u hd hu => (h4 j d u hd hu).mono hle⟩
      show (elder w w1).heap.size ≤ _
      rw [hsz]
      rcases h1 with h1 | h1
      · exact absurd (hs.heap.apart id 0 b (.inl ⟨_, _, h, h1.symm⟩) hown0) hi
      · exact h1
    · have hi : id ≠ 0 := by rintro rfl; rw [lget_same] at h; cases h
      rw [lget_ne _ _ hi] at h
      obtain ⟨h1, xs, h2, h3, h4⟩ := hs.heap.grow id α el' e enc L h
      refine ⟨fun g hg => .inr ?_, xs, h2, h3, fun i x j d u hx hd hu => (h4 i x j d u hx hd hu).mono hle.still⟩
      show (elder w w1).heap.size ≤ _
      rw [hsz]
      rcases h1 g hg with h5 | h5
      · have h5 : g = b := h5
        subst h5
        exact absurd (hs.heap.apart id 0 g (.inr (.inl ⟨_, _, _, _, _, h, hg⟩)) hown0) hi
      · exact h5
    · by_cases hi : id = 0
      · subst hi; exact hs.heap.below 0 _ h0
      · rw [lget_ne _ _ hi] at h; exact hs.heap.below id o h
  intro k d v hd
  refine (snap_rep (s := ⟨[], (0, .dead) :: s1.H, s1.nx, ([], 0)⟩) hr k d v (hd.mono hle)).mono ⟨fun _ _ _ h => h, fun k hk => ?_, fun _ _ _ h => h, fun _ _ h => h, fun _ _ _ h => h⟩
  obtain ⟨h6, h7⟩ := hk
  rcases h6 with (h6 | h6) | h6
  · exact .inl h6
  · exact h6.elim
  · refine .inr ⟨?_, h7⟩
    have h6 : (elder w w1).heap.size ≤ k := h6
    rw [hsz] at h6; exact h6

theorem ob_of_wpc (htt : ttOk P tt) (hb : entersAll P = true) (hm : P.follows .mixedOrders = true) {fn : Func} {c : Code} {el : TypeId} {X rest : List D} {Q : D → List D → Prop} (hfn : P.funcs[f]? = some fn) (hc : fn.body = some c) (hok : codeOk pl fn.ntmps c = true)
    (hn : rest.length + 1 ≤ fn.ntmps) (h : wpc P tt pl c ⟨enumD (.loc 0 0 :: rest) 0, [(0, .cells el X)], 1, ([0], 1)⟩ fun e s' => endK e (resK tt s' fn.results.toList fun l => seeD (oneD l) fun d => obAt el s' fun X' => seeD (snapD 6 ((0, .dead) :: s'.H) d) fun d => seeL (X'.map (snapD 6 ((0, .dead) :: s'.H))) fun X' => Q d X')) : Ob P f el X rest Q := by
  refine ⟨⟨fn, hfn, by rw [hc]; rfl⟩, fun w B b cc args' hB hblk hX hr => ?_⟩
  have hsz : b < w.heap.size := (Array.getElem?_eq_some_iff.1 hblk).1
  let σ0 : Nat → Nat := fun _ => b
  let τ0 : Nat → Value := fun _ => .slice none 0 0
  have hown : ∀ id k, owned [(0, .cells el X)] σ0 τ0 id k → id = 0 ∧ k = b := by
    intro id k ho
    by_cases hi : id = 0
    · subst hi
      rcases ho with ⟨_, _, h1, h2⟩ | ⟨_, _, _, _, _, h1, h2⟩ | ⟨_, h1, h2⟩
      rotate_left 2
      · rw [lget_same] at h1; cases h1
      · exact ⟨rfl, h2⟩
      · rw [lget_same] at h1; cases h1
    · rcases ho with ⟨_, _, h1, h2⟩ | ⟨_, _, _, _, _, h1, h2⟩ | ⟨_, h1, h2⟩ <;> (rw [lget_ne _ _ hi] at h1; cases h1)
  have hle : (baseCtx w B).Le (ctxOf (obEnv w B b fn.ntmps) [(0, .cells el X)] 1 σ0 τ0 w) :=
    ⟨fun _ _ _ h => h, fun k hk => ⟨.inl hk, (hB k hk).1, fun id ho => (hB k hk).2 (hown id k ho).2⟩, fun _ _ _ h => h.elim, fun _ _ h => h.elim, fun _ _ _ h => h.elim⟩
  have hr1 : reps (ctxOf (obEnv w B b fn.ntmps) [(0, .cells el X)] 1 σ0 τ0 w) (.loc 0 0 :: rest) (.pointer (some ⟨b, 0, none⟩) :: args') :=
    reps_cons (.loc ⟨Nat.zero_lt_one, rfl⟩) ⟨hr.1, fun j d u hd hu => (hr.2 j d u hd hu).mono hle⟩
  have hlen : args'.length + 1 ≤ fn.ntmps := by rw [hr.1]; exact hn
  have hs : SR (obEnv w B b fn.ntmps) ⟨enumD (.loc 0 0 :: rest) 0, [(0, .cells el X)], 1, ([0], 1)⟩ σ0 τ0 { tmps := (Value.pointer (some ⟨b, 0, none⟩) :: args').toArray ++ Array.replicate (fn.ntmps - (Value.pointer (some ⟨b, 0, none⟩) :: args').toArray.size) undef, defers := [] } w := by
    refine ⟨⟨⟨rfl, rfl, rfl, Nat.le_refl _, fun _ _ _ => rfl, Nat.le_refl _⟩, fun k hk => ⟨fun h => (hB k hk).2 h, (hB k hk).1⟩, fun id el' l h => ?_, fun id α el' e enc L h => ?_, fun i j k h1 h2 => ?_, fun id o h => ?_, fun _ => ⟨_, _, _, rfl⟩, fun id o h => by
      by_cases hi : id = 0
      · subst hi; rw [lget_same] at h; cases h
      · rw [lget_ne _ _ hi] at h; cases h⟩, rfl, ?_, fun i d hd => enter_slots hr1 fn.ntmps i d hd, fun G d v hx => ?_, Nat.le_refl _⟩
    · by_cases hi : id = 0
      · subst hi
        rw [lget_same] at h
        injection h with h; injection h with h1 h2; subst h1 h2
        exact ⟨.inl rfl, cc, hblk, by simpa using hX.1, fun j d u hd hu => (hX.2 j d u hd (by simpa using hu)).mono hle⟩
      · rw [lget_ne _ _ hi] at h; cases h
    · by_cases hi : id = 0
      · subst hi; rw [lget_same] at h; cases h
      · rw [lget_ne _ _ hi] at h; cases h
    · rw [(hown i k h1).1, (hown j k h2).1]
    · by_cases hi : id = 0
      · subst hi; exact Nat.zero_lt_one
      · rw [lget_ne _ _ hi] at h; cases h
    · simp [obEnv]; omega
    · obtain ⟨rfl, rfl, rfl⟩ := hx
      exact ⟨fun id h1 h2 => ⟨h1, h2⟩, Nat.le_refl _, .loc ⟨Nat.zero_lt_one, Nat.zero_lt_one, rfl⟩⟩
  refine calls_of_wp hfn hc (wp_mono (wpc_sound (E := obEnv w B b fn.ntmps) htt hb hm c hok _ _ _ _ _ w h hs) fun e a1 w1 hh => ?_)
  obtain ⟨x, s1, σ1, τ1, rfl, h1, h2⟩ := hh
  have fin : resK tt s1 fn.results.toList (fun l => seeD (oneD l) fun d => obAt el s1 fun X' => seeD (snapD 6 ((0, .dead) :: s1.H) d) fun d => seeL (X'.map (snapD 6 ((0, .dead) :: s1.H))) fun X' => Q d X') →
      a1.defers = [] ∧ ∃ v, (results fn a1.tmps).run P w1 = .ok v w1 ∧ ∃ d u X' c', Q d X' ∧ Ending.returned v = .returned u ∧ Turned b w w1 ∧ w1.heap[b]? = some (.cells c' el (0, 0)) ∧ reps (baseCtx w1 (newB B w w1)) X' c'.toList ∧ Rep (baseCtx w1 (newB B w w1)) d u := by
    intro hres
    obtain ⟨l, vs, h3, h4, h5⟩ := resK_run htt h2 _ _ hres
    rw [seeD_eq] at h3
    obtain ⟨X1, h6, h7⟩ := obAt_spec h3
    rw [seeD_eq, seeL_eq] at h7
    have hσ : σ1 0 = b := by
      obtain ⟨_, _, hg⟩ := h2.ghost ([0], 1) (.loc 0 0) _ ⟨rfl, rfl, rfl⟩
      cases hg with
      | loc hh =>
        obtain ⟨_, _, hh⟩ := hh
        simp at hh
        exact hh.symm
    obtain ⟨_, c1, h8, h9, h10⟩ := h2.heap.cells 0 el X1 h6
    rw [hσ] at h8
    have hend := ob_end h2 h6 hσ fun k hk => (hB k hk).1
    refine ⟨h2.defers, _, results_at h5, _, _, _, c1, h7, rfl, ⟨h2.heap.kept.os, h2.heap.kept.tape, h2.heap.kept.output, h2.heap.kept.size, fun k hk hne => h2.heap.kept.block k hk hne, h2.heap.kept.drawn⟩, h8, ⟨by simp [h9], fun j d u hd hu => ?_⟩, hend 6 _ _ (oneD_rep h4)⟩
    rw [List.getElem?_map] at hd
    cases hq : X1[j]? with
    | none => rw [hq] at hd; cases hd
    | some y =>
      rw [hq] at hd
      simp only [Option.map_some, Option.some.injEq] at hd
      subst hd
      exact hend 6 _ _ (h10 j y u hq (by simpa using hu))
  cases x with
  | normal => exact fin h1
  | ret => exact fin h1
  | exit i => exact h1.elim

theorem CallVC.ob {el : TypeId} {X rest : List D} {Q : D → List D → Prop} {i : Nat} (hf : Ob P f el X rest Q) (hid : lget s.H i = some (.cells el X)) (hX : X.all (cutOk 6 0) = true) (hcut : rest.all (cutOk 6 0) = true)
    (h : ∀ d X', Q d X' → K d ⟨s.F, (i, .cells el X') :: s.H, s.nx, s.G⟩) : CallVC P false f (.loc i 0 :: rest) s K := by
  refine ⟨hf.1, fun E σ τ a w args0 hs hr => ?_⟩
  obtain ⟨_, c, hblk, hcs, hcr⟩ := hs.heap.cells i el X hid
  have hown : owned s.H σ τ i (σ i) := .inl ⟨_, _, hid, rfl⟩
  have hbase : ∀ d v, cutOk 6 0 d = true → Rep (ctxOf E s.H s.nx σ τ w) d v → Rep (baseCtx w (ctxOf E s.H s.nx σ τ w).ok) d v := fun d v hd hv =>
    (cut_rep 6 d _ v hd hv).mono ⟨fun _ _ _ h => h, fun _ h => h, fun _ _ _ h => absurd h.1 (Nat.not_lt_zero _), fun _ _ h => absurd h.1 (Nat.not_lt_zero _), fun _ _ _ h => absurd h.1 (Nat.not_lt_zero _)⟩
  match args0, hr with
  | [], hr => have := hr.1; simp at this
  | v0 :: args', hr =>
  have hv0 : v0 = .pointer (some ⟨σ i, 0, none⟩) := by
    have := hr.2 0 (.loc i 0) v0 rfl rfl
    cases this with
    | loc hh => exact hh.2
  subst hv0
  refine (hf.2 w (ctxOf E s.H s.nx σ τ w).ok (σ i) c args' (fun k hk => ⟨hk.2.1, fun he => hk.2.2 i (he ▸ hown)⟩) hblk ⟨by simpa using hcs, fun j d u hd hu => hbase d u (all_at hX hd) (hcr j d u hd (by simpa using hu))⟩
    ⟨by have := hr.1; simpa using this, fun j d u hd hu => hbase d u (all_at hcut hd) (hr.2 (j + 1) d u (by simpa using hd) (by simpa using hu))⟩).mono fun e w' hh => ?_
  obtain ⟨d, v, X', c', hq, rfl, ht, hblk', hX', hd⟩ := hh
  have hlt : σ i < w.heap.size := (Array.getElem?_eq_some_iff.1 hblk).1
  have hlt' : σ i < w'.heap.size := Nat.lt_of_lt_of_le hlt ht.size
  let w1 : World := { w' with heap := w'.heap.set (σ i) (.cells c el (0, 0)) hlt' }
  have hw1 : ∀ k, k ≠ σ i → w'.heap[k]? = w1.heap[k]? := fun k hk => by
    show _ = (w'.heap.set (σ i) _ hlt')[k]?
    rw [Array.getElem?_set]
    rw [if_neg (fun h => hk h.symm)]
  have hwi : w1.heap[σ i]? = some (.cells c el (0, 0)) := by
    show (w'.heap.set (σ i) _ hlt')[σ i]? = _
    rw [Array.getElem?_set]
    rw [if_pos rfl]
  have hsz1 : w'.heap.size = w1.heap.size := by show _ = (w'.heap.set (σ i) _ hlt').size; simp
  have hbel : Under w.heap.size w w1 := ⟨⟨ht.os, ht.tape, ht.output, by rw [← hsz1]; exact ht.size, fun k hk => by
    by_cases hki : k = σ i
    · subst hki; rw [hwi, hblk]
    · rw [← hw1 k hki]; exact ht.block k hk hki⟩, ht.drawn⟩
  have hs1 := below_state hs hbel
  have hle : (baseCtx w' (newB (ctxOf E s.H s.nx σ τ w).ok w w')).Le (ctxOf E s.H s.nx σ τ w1) := by
    have hok : ∀ k, newB (ctxOf E s.H s.nx σ τ w).ok w w' k → (ctxOf E s.H s.nx σ τ w1).ok k := by
      intro k hk
      rcases hk with hk | ⟨h1, h2⟩
      · exact ⟨hk.1, Nat.lt_of_lt_of_le hk.2.1 hbel.size, hk.2.2⟩
      · exact ⟨.inr (.inr (Nat.le_trans hs.heap.kept.size h1)), by show k < w1.heap.size; rw [← hsz1]; exact h2, fun id ho => absurd (owned_lt hs.heap ho) (by omega)⟩
    refine ⟨fun k o hk hc => ?_, hok, fun _ _ _ h => h.elim, fun _ _ h => h.elim, fun _ _ _ h => h.elim⟩
    have hne : k ≠ σ i := fun he => (hok k hk).2.2 i (he ▸ hown)
    exact (hw1 k hne).symm.trans hc
  obtain ⟨hs2, hle2⟩ := store_state hs1 hid hblk' (Nat.le_refl _) rfl rfl rfl hsz1 (fun k hk => hw1 k hk) ⟨hX'.1, fun j d u hd hu => (hX'.2 j d u hd hu).mono hle⟩
  exact ⟨d, _, σ, τ, v, h d X' hq, rfl, hs2, (hd.mono hle).mono hle2, fun h => by cases h⟩
end
end Go.Proofs.Ytfghccppoilfhaa.V
namespace Go.Proofs.Ytfghccppoilfhaa.V
open Go.RowKit
abbrev intD (n : Int) : D := .v (.int .i64 n)
abbrev boolD (b : Bool) : D := .v (.bool b)
theorem wrap_next {k n : Nat} (h : k < n) (hn : n ≤ 1000000) : IntKind.i64.wrap ((k : Int) + 1) = ((k + 1 : Nat) : Int) := by
  rw [IntWalk.i64_in _ (by omega)]; omega
theorem u32_wrap (n : Int) : IntKind.u32.wrap n = n % 4294967296 := by
  rw [IntKind.wrap]; rfl
theorem Ob.exact {P : Program} {f : FuncId} {el : TypeId} {X rest : List D} {d0 : D} {X0 : List D} (h : Ob P f el X rest fun d X' => DLe d d0 ∧ X' = X0) : Ob P f el X rest fun d X' => d = d0 ∧ X' = X0 :=
  ⟨h.1, fun w B b c args' h1 h2 h3 h4 => (h.2 w B b c args' h1 h2 h3 h4).mono fun _ _ ⟨_, v, _, c', ⟨h5, h6⟩, h7, h8, h9, h10, h11⟩ => ⟨d0, v, X0, c', ⟨rfl, rfl⟩, h7, h8, h9, h6 ▸ h10, h5 _ _ h11⟩⟩
end Go.Proofs.Ytfghccppoilfhaa.V
namespace Go.Proofs.Ytfghccppoilfhaa.V
open Go.RowKit

section
variable {P : Program} {tt : TT} {E : Env} {s : St} {σ : Nat → Nat} {τ : Nat → Value} {a : Act} {w : World}

theorem owned_newObj {H : List (Nat × LO)} {nx b j : Nat} {o : Obj} {n : Nat} (h : owned ((nx, .obj (.ob o)) :: H) (setN σ nx b) τ j n) : (j = nx ∧ n = b) ∨ (j ≠ nx ∧ owned H σ τ j n) := by
  by_cases hj : j = nx
  · subst hj
    left
    rcases h with ⟨el', l', h1, rfl⟩ | ⟨α, el', e, enc, L, h1, h2⟩ | ⟨o, h1, h2⟩
    · rw [lget_same] at h1; cases h1
    · rw [lget_same] at h1; cases h1
    · rw [lget_same] at h1
      injection h1 with h1; injection h1 with h1; subst h1
      exact ⟨rfl, by simpa [setN, OA.foot] using h2⟩
  · right
    refine ⟨hj, ?_⟩
    rcases h with ⟨el', l', h1, rfl⟩ | ⟨α, el', e, enc, L, h1, h2⟩ | ⟨o, h1, h2⟩
    · rw [lget_ne _ _ hj] at h1
      exact .inl ⟨el', l', h1, by simp [setN, hj]⟩
    · rw [lget_ne _ _ hj] at h1
      exact .inr (.inl ⟨α, el', e, enc, L, h1, h2⟩)
    · rw [lget_ne _ _ hj] at h1
      exact .inr (.inr ⟨o, h1, by simpa [setN, hj] using h2⟩)

theorem allocObj_le (hs : HR E s.H s.nx σ τ w) (o : Obj) : (ctxOf E s.H s.nx σ τ w).Le (ctxOf E ((s.nx, .obj (.ob o)) :: s.H) (s.nx + 1) (setN σ s.nx w.heap.size) τ (w.alloc o)) := by
  refine ⟨fun b of hb hc => ?_, fun b hb => ?_, fun id off v hv => ?_, fun id v hv => ?_, fun id off v hv => ?_⟩
  · exact (Below.heap_alloc w o b hb.2.1).trans hc
  · obtain ⟨h1, h2, h3⟩ := hb
    refine ⟨h1, by simp; omega, fun id ho => ?_⟩
    rcases owned_newObj ho with ⟨_, rfl⟩ | ⟨_, ho⟩
    · exact absurd h2 (Nat.lt_irrefl _)
    · exact h3 id ho
  · obtain ⟨h1, rfl⟩ := hv
    exact ⟨Nat.lt_succ_of_lt h1, by simp [setN, show id ≠ s.nx by omega]⟩
  · exact ⟨Nat.lt_succ_of_lt hv.1, hv.2⟩
  · exact ⟨Nat.lt_succ_of_lt hv.1, hv.2⟩

theorem allocObj_state (hs : SR E s σ τ a w) (o : Obj) : SR E ⟨s.F, (s.nx, .obj (.ob o)) :: s.H, s.nx + 1, s.G⟩ (setN σ s.nx w.heap.size) τ a (w.alloc o) := by
  have hle := allocObj_le hs.heap o
  refine ⟨⟨hs.heap.kept.alloc _, hs.heap.few, fun id el' l' h => ?_, fun id α el' e enc L h => ?_, fun i j b h1 h2 => ?_, fun id o h => ?_, hs.heap.slices, fun id o' h => ?_⟩, hs.defers, hs.size, fun i d h => (hs.slots i d h).mono hle, hs.ghost_le rfl hle, Nat.le_succ_of_le hs.room⟩
  · have hid : id ≠ s.nx := by rintro rfl; rw [lget_same] at h; cases h
    rw [lget_ne _ _ hid] at h
    obtain ⟨h1, c', h2, h3, h4⟩ := hs.heap.cells id el' l' h
    have hlt : σ id < w.heap.size := (Array.getElem?_eq_some_iff.1 h2).1
    refine ⟨by simpa [setN, hid] using h1, c', ?_, h3, fun j d u hd hu => (h4 j d u hd hu).mono hle⟩
    simp only [setN, hid, if_false]
    rw [Below.heap_alloc w _ _ hlt]; exact h2
  · have hid : id ≠ s.nx := by rintro rfl; rw [lget_same] at h; cases h
    rw [lget_ne _ _ hid] at h
    obtain ⟨h1, xs, h2, h3, h4⟩ := hs.heap.grow id α el' e enc L h
    exact ⟨h1, xs, h2.alloc _, h3, fun i x j d u hx hd hu => (h4 i x j d u hx hd hu).mono hle.still⟩
  · rcases owned_newObj h1 with ⟨rfl, rfl⟩ | ⟨g1, h1⟩ <;> rcases owned_newObj h2 with ⟨rfl, e2⟩ | ⟨g2, h2⟩
    · rfl
    · exact absurd (owned_lt hs.heap h2) (Nat.lt_irrefl _)
    · subst e2; exact absurd (owned_lt hs.heap h1) (Nat.lt_irrefl _)
    · exact hs.heap.apart i j b h1 h2
  · by_cases hid : id = s.nx
    · subst hid; exact Nat.lt_succ_self _
    · rw [lget_ne _ _ hid] at h
      exact Nat.lt_succ_of_lt (hs.heap.below id o h)
  · by_cases hid : id = s.nx
    · subst hid
      rw [lget_same] at h
      injection h with h; injection h with h; subst h
      have e0 : setN σ s.nx w.heap.size s.nx = w.heap.size := by simp [setN]
      rw [e0]
      refine ⟨fun k hk => ?_, ?_⟩
      · have hk : k = w.heap.size := hk
        subst hk
        exact ⟨.inr hs.heap.kept.size, by simp⟩
      · show (w.heap.push _)[w.heap.size]? = _
        simp
    · rw [lget_ne _ _ hid] at h
      obtain ⟨h1, h2⟩ := hs.heap.obj id o' h
      have e0 : setN σ s.nx w.heap.size id = σ id := by simp [setN, hid]
      rw [e0]
      exact ⟨fun k hk => ⟨(h1 k hk).1, by have := (h1 k hk).2; simp; omega⟩, OA.at_mono h2 (fun k hk => Below.heap_alloc w _ _ (h1 k hk).2) (by show w.heap.size ≤ (w.alloc _).heap.size; simp) hle.still⟩

theorem owned_setObj {H : List (Nat × LO)} {id : Nat} {o o' : Obj} {j n : Nat} (hid : lget H id = some (.obj (.ob o))) (h : owned ((id, .obj (.ob o')) :: H) σ τ j n) : owned H σ τ j n := by
  by_cases hj : j = id
  · subst hj
    rcases h with ⟨el', l', h1, rfl⟩ | ⟨α, el', e, enc, L, h1, h2⟩ | ⟨o, h1, h2⟩
    · rw [lget_same] at h1; cases h1
    · rw [lget_same] at h1; cases h1
    · rw [lget_same] at h1
      injection h1 with h1; injection h1 with h1; subst h1
      exact .inr (.inr ⟨_, hid, h2⟩)
  · rcases h with ⟨el', l', h1, rfl⟩ | ⟨α, el', e, enc, L, h1, h2⟩ | ⟨o, h1, h2⟩
    rotate_left 2
    · rw [lget_ne _ _ hj] at h1
      exact .inr (.inr ⟨o, h1, h2⟩)
    · rw [lget_ne _ _ hj] at h1
      exact .inl ⟨el', l', h1, rfl⟩
    · rw [lget_ne _ _ hj] at h1
      exact .inr (.inl ⟨α, el', e, enc, L, h1, h2⟩)

theorem setObj_state (hs : SR E s σ τ a w) {id : Nat} {o : Obj} (hid : lget s.H id = some (.obj (.ob o))) (o' : Obj) :
    SR E ⟨s.F, (id, .obj (.ob o')) :: s.H, s.nx, s.G⟩ σ τ a { w with heap := w.heap.setIfInBounds (σ id) o' } := by
  have hown : owned s.H σ τ id (σ id) := .inr (.inr ⟨_, hid, rfl⟩)
  obtain ⟨hmine, hblk⟩ := hs.heap.obj id _ hid
  have hmine := (hmine _ rfl).1
  have hblk : w.heap[σ id]? = some o := hblk
  have hlt : σ id < w.heap.size := (Array.getElem?_eq_some_iff.1 hblk).1
  have hk : ∀ k, k ≠ σ id → (w.heap.setIfInBounds (σ id) o')[k]? = w.heap[k]? := fun k hk => by
    rw [Array.getElem?_setIfInBounds, if_neg (fun h => hk h.symm)]
  have hsz : (w.heap.setIfInBounds (σ id) o').size = w.heap.size := by simp
  have hle : (ctxOf E s.H s.nx σ τ w).Le (ctxOf E ((id, .obj (.ob o')) :: s.H) s.nx σ τ { w with heap := w.heap.setIfInBounds (σ id) o' }) := by
    refine ⟨fun b of hb hc => ?_, fun b hb => ?_, fun _ _ _ hv => hv, fun _ _ hv => hv, fun _ _ _ hv => hv⟩
    · have hne : b ≠ σ id := by rintro rfl; exact hb.2.2 id hown
      exact (hk b hne).trans hc
    · exact ⟨hb.1, by show b < (w.heap.setIfInBounds (σ id) o').size; rw [hsz]; exact hb.2.1, fun j ho => hb.2.2 j (owned_setObj hid ho)⟩
  refine ⟨⟨⟨hs.heap.kept.os, hs.heap.kept.tape, hs.heap.kept.output, by show _ ≤ (w.heap.setIfInBounds (σ id) o').size; rw [hsz]; exact hs.heap.kept.size, fun k hk1 hn => ?_, hs.heap.kept.drawn⟩, hs.heap.few, fun j el' l2 h => ?_, fun j α el' e enc L h => ?_, fun i j b h1 h2 => hs.heap.apart i j b (owned_setObj hid h1) (owned_setObj hid h2), fun j o h => ?_, hs.heap.slices, fun j o2 h => ?_⟩, hs.defers, hs.size, fun i d h => (hs.slots i d h).mono hle, hs.ghost_le rfl hle, hs.room⟩
  · have hne : k ≠ σ id := by
      rintro rfl
      rcases hmine with hm | hm
      · exact hn hm
      · omega
    exact (hk k hne).trans (hs.heap.kept.block k hk1 hn)
  · have hj : j ≠ id := by rintro rfl; rw [lget_same] at h; cases h
    rw [lget_ne _ _ hj] at h
    obtain ⟨h1, c, h2, h3, h4⟩ := hs.heap.cells j el' l2 h
    have hne : σ j ≠ σ id := fun he => hj (hs.heap.apart j id (σ j) (.inl ⟨_, _, h, rfl⟩) (he ▸ hown))
    exact ⟨h1, c, (hk _ hne).trans h2, h3, fun j d u hd hu => (h4 j d u hd hu).mono hle⟩
  · have hj : j ≠ id := by rintro rfl; rw [lget_same] at h; cases h
    rw [lget_ne _ _ hj] at h
    obtain ⟨h1, xs, h2, h3, h4⟩ := hs.heap.grow j α el' e enc L h
    refine ⟨h1, xs, ?_, h3, fun i x j d u hx hd hu => (h4 i x j d u hx hd hu).mono hle.still⟩
    obtain ⟨h5, h6⟩ := h2
    refine ⟨h5, ?_⟩
    rcases h6 with h6 | ⟨g, cap, cur, hv, q1, q2, q3⟩
    · exact .inl h6
    · have hne : g ≠ σ id := fun he => hj (hs.heap.apart j id g (.inr (.inl ⟨_, _, _, _, _, h, by rw [hv]; rfl⟩)) (he ▸ hown))
      exact .inr ⟨g, cap, cur, hv, q1, (hk g hne).trans q2, q3⟩
  · by_cases hj : j = id
    · subst hj; exact hs.heap.below j _ hid
    · rw [lget_ne _ _ hj] at h; exact hs.heap.below j o h
  · by_cases hj : j = id
    · subst hj
      rw [lget_same] at h
      injection h with h; injection h with h; subst h
      refine ⟨fun k hk => ?_, ?_⟩
      · have hk : k = σ j := hk
        subst hk
        exact ⟨hmine, by show σ j < (w.heap.setIfInBounds (σ j) _).size; rw [hsz]; exact hlt⟩
      · show (w.heap.setIfInBounds (σ j) _)[σ j]? = _
        simp [hlt]
    · rw [lget_ne _ _ hj] at h
      obtain ⟨h1, h2⟩ := hs.heap.obj j o2 h
      exact ⟨fun k hkf => ⟨(h1 k hkf).1, by show k < (w.heap.setIfInBounds (σ id) _).size; rw [hsz]; exact (h1 k hkf).2⟩, OA.at_mono h2 (fun k hkf => hk k fun he => hj (hs.heap.apart j id k (.inr (.inr ⟨_, h, hkf⟩)) (he ▸ hown))) (Nat.le_of_eq hsz.symm) hle.still⟩

end
end Go.Proofs.Ytfghccppoilfhaa.V
namespace Go.Proofs.Ytfghccppoilfhaa.V
open Go.RowKit

section
variable {P : Program} {tt : TT} {E : Env} {s : St} {σ : Nat → Nat} {τ : Nat → Value} {a : Act} {w : World}

abbrev strI (b : ByteArray) (pos : Nat) : LO := .obj (.ob (.stringIter b pos))

theorem op_rangeStr (htt : ttOk P tt) {g : Bool} {o : Oper} {t : TypeId} {x : Operand} {b : ByteArray} {a1 a2 a3} (ho : o.op = .range t x) (ht : tfind tt t = some ⟨.str, a1, a2, a3⟩) (hx : evD s x = .v (.string b)) {K : D → St → Prop}
    (h : K (.loc s.nx 0) ⟨s.F, (s.nx, strI b 0) :: s.H, s.nx + 1, s.G⟩) : OpVC P g o s K := by
  intro E σ τ a w hs next Q hn
  obtain ⟨_, _, _, k1, _, _, k4, _⟩ := view_spec (tfind_view htt ht)
  have := ud_str k4; subst this
  have hxr := evD_rep hs x
  rw [hx] at hxr
  have hxv := rep_v hxr
  unfold Oper.wp
  have hrun : (execOp a.eval o).run P w = .ok (.value (.pointer (some ⟨w.heap.size, 0, none⟩))) (w.alloc (.stringIter b 0)) := by
    have := run_range_string (P := P) w t b k1
    simp only [execOp, ho, hxv, Sem.run_bind, this, Result.andThen]
    rfl
  rw [hrun]
  refine hn _ _ _ _ _ _ h (allocObj_state hs _) (.loc ⟨Nat.lt_succ_self _, ?_⟩) (fun _ => (Below.refl _ _).alloc (Nat.le_refl _) _)
  simp [setN]

theorem loc_val {C : Ctx} {id off : Nat} {v : Value} (h : Rep C (.loc id off) v) : C.loc id off v := by
  cases h with
  | loc hl => exact hl

theorem tup_rep {C : Ctx} {l : List D} {c : Array Value} (h : reps C l c.toList) : Rep C (.tup l) (.tuple c) := by
  refine .tup (by simpa using h.1) fun j d u hd hu => h.2 j d u hd (by simpa using hu)

theorem op_nextStr {o : Oper} {x : Operand} {id pos : Nat} {b : ByteArray} (ho : o.op = .next x true) (hx : evD s x = .loc id 0) (hid : lget s.H id = some (strI b pos)) {K : D → St → Prop}
    (h1 : ∀ c n, pos < b.size → Utf8.decode b pos = (c, n) → K (.tup [.v (.bool true), .v (.int .i64 pos), .v (.int .i32 c)]) ⟨s.F, (id, strI b (pos + n)) :: s.H, s.nx, s.G⟩)
    (h0 : ¬ pos < b.size → K (.tup [.v (.bool false)]) s) : OpVC P false o s K := by
  intro E σ τ a w hs next Q hn
  have hxr := evD_rep hs x
  rw [hx] at hxr
  obtain ⟨hlt, hv⟩ := loc_val hxr
  obtain ⟨_, hob⟩ := hs.heap.obj id _ hid
  have hob : w.heap[σ id]? = some (.stringIter b pos) := hob
  unfold Oper.wp
  by_cases hp : pos < b.size
  · obtain ⟨c, n, hd⟩ : ∃ c n, Utf8.decode b pos = (c, n) := ⟨_, _, rfl⟩
    have hrun : (execOp a.eval o).run P w = .ok (.value (.tuple #[.bool true, .int .i64 pos, .int .i32 c])) { w with heap := w.heap.setIfInBounds (σ id) (.stringIter b (pos + n)) } := by
      simp only [execOp, ho, hv, Instr.next, getObj, setObj, Sem.run_bind, Sem.run, hob, Result.andThen, hp, if_true, hd]
      simp [goInt, Sem.run, hob]
    rw [hrun]
    refine hn _ _ _ _ _ _ (h1 c n hp hd) (setObj_state hs hid _) (tup_rep ⟨rfl, fun j d u hd hu => ?_⟩) (fun h => by cases h)
    match j, hd, hu with
    | 0, hd, hu => injection hd with hd; injection hu with hu; subst hd hu; exact .v
    | 1, hd, hu => injection hd with hd; injection hu with hu; subst hd hu; exact .v
    | 2, hd, hu => injection hd with hd; injection hu with hu; subst hd hu; exact .v
    | _ + 3, hd, _ => simp at hd
  · have hrun : (execOp a.eval o).run P w = .ok (.value (.tuple #[.bool false])) w := by
      simp only [execOp, ho, hv, Instr.next, getObj, Sem.run_bind, Sem.run, hob, Result.andThen, hp, if_false]
      simp [Sem.run]
    rw [hrun]
    refine hn _ _ _ _ _ _ (h0 hp) hs (tup_rep ⟨rfl, fun j d u hd hu => ?_⟩) (fun h => by cases h)
    match j, hd, hu with
    | 0, hd, hu => injection hd with hd; injection hu with hu; subst hd hu; exact .v
    | _ + 1, hd, _ => simp at hd

def bytesOf (L : List Int) : ByteArray := ⟨(L.map fun n => UInt8.ofNat n.toNat).toArray⟩
theorem foldl_push (f : Int → UInt8) : ∀ (L : List Int) (s : ByteArray), (L.foldl (fun r n => r.push (f n)) s).data.toList = s.data.toList ++ L.map f
  | [], s => by simp
  | n :: L, s => by
    rw [List.foldl_cons, foldl_push f L]
    simp [ByteArray.push]
theorem foldl_bytes (L : List Int) : L.foldl (fun r n => r.push (UInt8.ofNat n.toNat)) ByteArray.empty = bytesOf L := by
  apply ByteArray.ext
  apply Array.toList_inj.1
  rw [foldl_push]
  simp [bytesOf, ByteArray.empty, ByteArray.emptyWithCapacity]
  rfl

theorem op_bytesStr (htt : ttOk P tt) {g : Bool} {o : Oper} {t u e : TypeId} {x : Operand} {L : List Int} {a1 a2 a3 b1 b2 b3 c1 c2 c3} (ho : o.op = .convert t u x) (ht : tfind tt t = some ⟨.slice e, a1, a2, a3⟩) (he : tfind tt e = some ⟨.int .u8, b1, b2, b3⟩) (hu : tfind tt u = some ⟨.str, c1, c2, c3⟩)
    (hx : srcRows s 1 (evD s x) = some (L.map fun n => [.v (.int .u8 n)])) (hl : litStill (evD s x) = true) {K : D → St → Prop} (h : K (.v (.string (bytesOf L))) s) : OpVC P g o s K := by
  intro E σ τ a w hs next Q hn
  obtain ⟨_, _, _, k1, _, _, k4, _⟩ := view_spec (tfind_view htt ht)
  have := ud_slice k4; subst this
  obtain ⟨_, _, _, q1, _, _, q4, _⟩ := view_spec (tfind_view htt he)
  have := ud_int q4; subst this
  obtain ⟨_, _, _, r1, _, _, r4, _⟩ := view_spec (tfind_view htt hu)
  have := ud_str r4; subst this
  obtain ⟨p, c, news, hv, hlen, hone, hrep, hmem⟩ := src_spec hs (Nat.zero_lt_one) hx hl (evD_rep hs x)
  rw [List.length_map] at hv hlen
  have hnews : news = L.map (Value.int .u8) := by
    apply List.ext_getElem?
    intro i
    cases hq : L[i]? with
    | none =>
      have h1 := List.getElem?_eq_none_iff.1 hq
      rw [List.getElem?_eq_none (by omega), List.getElem?_map, hq]; rfl
    | some n =>
      have h1 := (List.getElem?_eq_some_iff.1 hq).1
      obtain ⟨v, hv⟩ : ∃ v, news[i]? = some v := ⟨_, List.getElem?_eq_getElem (by omega)⟩
      have := hrep i [.v (.int .u8 n)] 0 (.v (.int .u8 n)) v (by rw [List.getElem?_map, hq]; rfl) rfl (by rw [Nat.mul_one, Nat.add_zero]; exact hv)
      rw [hv, List.getElem?_map, hq, rep_v this]; rfl
  unfold Oper.wp
  have hrun : (execOp a.eval o).run P w = .ok (.value (.string (bytesOf L))) w := by
    have hc := run_convert_bytes_string (P := P) w t u e p L.length c k1 q1 r1
    have hb : (Conv.bytesToString (.slice p L.length c)).run P w = .ok (.string (bytesOf L)) w := by
      cases L with
      | nil =>
        cases p with
        | none => simp [Conv.bytesToString, Sem.run_pure, bytesOf]; rfl
        | some p =>
          have := run_bytesToString (P := P) w p 0 c [] (by
            have := run_loadCells_list (P := P) w p [] (fun j v h => by cases h)
            simpa using this)
          rw [foldl_bytes] at this
          exact this
      | cons n r =>
        rcases hmem with hmem | ⟨b, o, hp, hcells⟩
        · cases hmem
        · rw [hp, ← foldl_bytes]
          refine run_bytesToString (P := P) w _ _ c (n :: r) ?_
          have := run_loadCells_list (P := P) w ⟨b, o, none⟩ news (fun j v hj => by
            have h5 := hcells j v hj
            unfold Addr.add
            split
            · rename_i h6; subst h6; exact h5
            · exact h5)
          rw [hnews, List.length_map] at this
          exact this
    simp only [execOp, ho, hv, Sem.run_bind, hc, hb, Result.andThen]
    rfl
  rw [hrun]
  exact hn _ _ _ _ _ _ h hs .v (fun _ => Below.refl _ _)
end
end Go.Proofs.Ytfghccppoilfhaa.V
namespace Go.Proofs.Ytfghccppoilfhaa.V

def Byt (l : List Nat) : Prop := ∀ x, x ∈ l → x < 256
def strB (l : List Nat) : ByteArray := ⟨(l.map UInt8.ofNat).toArray⟩
abbrev strD (l : List Nat) : D := .v (.string (strB l))

theorem Byt.nil : Byt [] := fun x h => by cases h
theorem Byt.cons {x : Nat} {l : List Nat} (hx : x < 256) (h : Byt l) : Byt (x :: l) := fun y hy => by
  rcases List.mem_cons.1 hy with rfl | hy
  · exact hx
  · exact h y hy
theorem Byt.append {a b : List Nat} (ha : Byt a) (hb : Byt b) : Byt (a ++ b) := fun y hy => by
  rcases List.mem_append.1 hy with h | h
  · exact ha y h
  · exact hb y h
theorem Byt.sub {a b : List Nat} (ha : Byt a) (h : ∀ x, x ∈ b → x ∈ a) : Byt b := fun y hy => ha y (h y hy)
theorem Byt.tail {x : Nat} {l : List Nat} (h : Byt (x :: l)) : Byt l := h.sub fun _ hy => List.mem_cons_of_mem _ hy
theorem Byt.head {x : Nat} {l : List Nat} (h : Byt (x :: l)) : x < 256 := h x List.mem_cons_self
theorem Byt.take {l : List Nat} (h : Byt l) (n : Nat) : Byt (l.take n) := h.sub fun _ hy => List.mem_of_mem_take hy
theorem Byt.drop {l : List Nat} (h : Byt l) (n : Nat) : Byt (l.drop n) := h.sub fun _ hy => List.mem_of_mem_drop hy
theorem Byt.get {l : List Nat} (h : Byt l) {n x : Nat} (hx : l[n]? = some x) : x < 256 := h x (List.mem_of_getElem? hx)

theorem strB_data (l : List Nat) : (strB l).data.toList = l.map UInt8.ofNat := rfl
theorem strB_size (l : List Nat) : (strB l).size = l.length := by
  show (l.map UInt8.ofNat).toArray.size = _
  simp
theorem strB_ext {a b : ByteArray} (h : a.data.toList = b.data.toList) : a = b := ByteArray.ext (Array.toList_inj.1 h)
theorem strB_append (a b : List Nat) : strB a ++ strB b = strB (a ++ b) := strB_ext (by
  rw [strB_data, List.map_append]
  show (ByteArray.append _ _).data.toList = _
  simp [strB])
theorem ofNat_inj {a b : Nat} (ha : a < 256) (hb : b < 256) (h : UInt8.ofNat a = UInt8.ofNat b) : a = b := by
  have := congrArg UInt8.toNat h
  rw [UInt8.toNat_ofNat', UInt8.toNat_ofNat'] at this
  omega
theorem map_inj : ∀ {a b : List Nat}, Byt a → Byt b → a.map UInt8.ofNat = b.map UInt8.ofNat → a = b
  | [], [], _, _, _ => rfl
  | [], _ :: _, _, _, h => by simp at h
  | _ :: _, [], _, _, h => by simp at h
  | x :: a, y :: b, ha, hb, h => by
    simp only [List.map_cons, List.cons.injEq] at h
    rw [ofNat_inj ha.head hb.head h.1, map_inj ha.tail hb.tail h.2]
theorem strB_inj {a b : List Nat} (ha : Byt a) (hb : Byt b) (h : strB a = strB b) : a = b := map_inj ha hb (congrArg (fun x => x.data.toList) h)
theorem strB_beq {a b : List Nat} (ha : Byt a) (hb : Byt b) : ((strB a).toList == (strB b).toList) = decide (a = b) := by
  rw [Lib.toList_data, Lib.toList_data]
  by_cases h : a = b
  · subst h; simp
  · rw [decide_eq_false h]
    refine beq_eq_false_iff_ne.2 fun e => h (strB_inj ha hb (strB_ext e))
theorem strB_get {l : List Nat} (h : Byt l) {n : Nat} {b : UInt8} (hb : (strB l)[n]? = some b) : l[n]? = some b.toNat := by
  have h1 : (l.map UInt8.ofNat)[n]? = some b := by
    rw [← hb]
    by_cases hn : n < l.length
    · rw [List.getElem?_eq_getElem (by simpa using hn)]
      rw [getElem?_pos (strB l) n (by rw [strB_size]; exact hn)]
      congr 1
    · rw [List.getElem?_eq_none (by simpa using hn)]
      rw [getElem?_neg (strB l) n (by rw [strB_size]; exact hn)]
  rw [List.getElem?_map] at h1
  cases hq : l[n]? with
  | none => rw [hq] at h1; cases h1
  | some x =>
    rw [hq] at h1
    simp only [Option.map_some, Option.some.injEq] at h1
    subst h1
    rw [UInt8.toNat_ofNat', Nat.mod_eq_of_lt (h.get hq)]
theorem strB_extract (l : List Nat) (i j : Nat) : (strB l).extract i j = strB ((l.take j).drop i) := strB_ext (by
  rw [strB_data, List.map_drop, List.map_take]
  rw [List.drop_take]
  simp [strB])
theorem bytesOf_str (L : List Int) : bytesOf L = strB (L.map Int.toNat) := by
  unfold bytesOf strB
  rw [List.map_map]; rfl

theorem decode_low {l : List Nat} (h : Byt l) {p x : Nat} (hx : l[p]? = some x) (h7 : x < 128) : Utf8.decode (strB l) p = (x, 1) := by
  have hp : p < (strB l).size := by rw [strB_size]; exact (List.getElem?_eq_some_iff.1 hx).1
  have hb : (strB l)[p]? = some ((strB l)[p]'hp) := getElem?_pos _ _ _
  have := strB_get h hb
  rw [hx] at this
  injection this with this
  have h2 := decode_ascii (strB l) p hp (by omega)
  rw [h2, ← this]
theorem decode_high {l : List Nat} (h : Byt l) {p x c n : Nat} (hx : l[p]? = some x) (h7 : ¬ x < 128) (hd : Utf8.decode (strB l) p = (c, n)) : 127 < c := by
  have hp : p < (strB l).size := by rw [strB_size]; exact (List.getElem?_eq_some_iff.1 hx).1
  have hb : (strB l)[p]? = some ((strB l)[p]'hp) := getElem?_pos _ _ _
  have h1 := strB_get h hb
  rw [hx] at h1
  injection h1 with h1
  have e : ((strB l).get! (p + 0)).toNat = x := by
    rw [h1]
    show ((strB l).get! p).toNat = _
    congr 1
    simp [ByteArray.get!, getElem!_pos, hp]
    rfl
  unfold Utf8.decode at hd
  simp only [e, h7, if_false] at hd
  repeat' split at hd
  all_goals first
    | (injection hd with hd1 hd2; subst hd1; decide +revert)
    | (injection hd with hd1 hd2; subst hd1; omega)
    | (injection hd with hd1 hd2; subst hd1; rename_i h9; simp only [Bool.and_eq_true, decide_eq_true_eq] at h9; omega)
    | (injection hd with hd1 hd2; subst hd1; rename_i h9; simp only [Bool.and_eq_true, decide_eq_true_eq] at h9; omega)
end Go.Proofs.Ytfghccppoilfhaa.V
namespace Go.Proofs.Ytfghccppoilfhaa.V
open Go.RowKit

def FnN (P : Program) (f : FuncId) (args : List D) (Q : D → Prop) : Prop :=
  hasBody P f ∧ ∀ (w : World) (B : Nat → Prop) (args' : List Value), (∀ b, B b → b < w.heap.size) → reps (baseCtx w B) args args' →
    Calls P f args'.toArray w fun e w' => ∃ d v, Q d ∧ e = .returned v ∧ Under w.heap.size w w' ∧ Rep (baseCtx w' fun b => w.heap.size ≤ b ∧ b < w'.heap.size) d v

theorem FnN.mono {P : Program} {f : FuncId} {args : List D} {Q Q' : D → Prop} (h : FnN P f args Q) (hq : ∀ d, Q d → Q' d) : FnN P f args Q' :=
  ⟨h.1, fun w B args' hB hr => (h.2 w B args' hB hr).mono fun _ _ ⟨d, v, h1, h2⟩ => ⟨d, v, hq d h1, h2⟩⟩
theorem FnN.exact {P : Program} {f : FuncId} {args : List D} {d0 : D} (h : FnN P f args fun d => DLe d d0) : FnN P f args fun d => d = d0 :=
  ⟨h.1, fun w B args' hB hr => (h.2 w B args' hB hr).mono fun _ _ ⟨_, v, h1, h2, h3, h4⟩ => ⟨d0, v, rfl, h2, h3, h1 _ _ h4⟩⟩
theorem FnN.fn {P : Program} {f : FuncId} {args : List D} {Q : D → Prop} (h : FnN P f args Q) : Fn P f args Q :=
  ⟨h.1, fun w B args' hB hr => (h.2 w B args' hB hr).mono fun _ _ ⟨d, v, h1, h2, h3, h4⟩ => ⟨d, v, h1, h2, h3, h4.mono ⟨fun _ _ _ h => h, fun _ hb => .inr hb, fun _ _ _ h => h, fun _ _ h => h, fun _ _ _ h => h⟩⟩⟩
section
variable {P : Program} {tt : TT} {pl : Plans} {E : Env} {s : St} {σ : Nat → Nat} {τ : Nat → Value} {a : Act} {w : World} {K : D → St → Prop} {f : FuncId} {args : List D}

theorem CallVC.look {g : Bool} {Q : D → Prop} {args0 : List D} (hf : FnN P f args0 Q) (he : args.map (snapD 6 s.H) = args0) (h : ∀ d, Q d → K d s) : CallVC P g f args s K := by
  subst he
  refine ⟨hf.1, fun E σ τ a w args' hs hr => ?_⟩
  have hr' : reps (baseCtx w fun b => ((E.B b ∨ E.K b) ∨ E.w.heap.size ≤ b) ∧ b < w.heap.size) (args.map (snapD 6 s.H)) args' := by
    refine ⟨by simp [hr.1], fun j d u hd hu => ?_⟩
    rw [List.getElem?_map] at hd
    cases hq : args[j]? with
    | none => rw [hq] at hd; cases hd
    | some x =>
      rw [hq] at hd
      simp only [Option.map_some, Option.some.injEq] at hd
      subst hd
      exact snap_rep hs.heap 6 x u (hr.2 j x u hq hu)
  refine (hf.2 w _ args' (fun b hb => hb.2) hr').mono fun e w' hh => ?_
  obtain ⟨d, v, h1, rfl, h3, h4⟩ := hh
  refine ⟨d, s, σ, τ, v, h d h1, rfl, below_state hs h3, h4.mono ⟨fun _ _ _ h => h, fun b hb => ?_, fun _ _ _ h => h.elim, fun _ _ h => h.elim, fun _ _ _ h => h.elim⟩, fun _ => h3.toBelow⟩
  exact ⟨.inr (.inr (Nat.le_trans hs.heap.kept.size hb.1)), hb.2, fun id ho => absurd (owned_lt hs.heap ho) (by have := hb.1; omega)⟩
end
end Go.Proofs.Ytfghccppoilfhaa.V
namespace Go.Proofs.Ytfghccppoilfhaa.V
open Go.RowKit

def FnR (P : Program) (f : FuncId) (args : List D) (α : Type) (el : TypeId) (e : Nat) (enc : α → List D) (L : List α) : Prop :=
  hasBody P f ∧ ∀ (w : World) (B : Nat → Prop) (args' : List Value), (∀ b, B b → b < w.heap.size) → reps (baseCtx w B) args args' →
    Calls P f args'.toArray w fun x w' => ∃ v xs, x = .returned v ∧ Under w.heap.size w w' ∧ (∃ p l c, v = .slice p l c) ∧ (∀ g, v.ownBlock = some g → w.heap.size ≤ g) ∧ w'.ownsRow 0 el e v L.length xs ∧ (∀ (i : Nat) x, L[i]? = some x → (enc x).length = e) ∧
      ∀ (i : Nat) x (j : Nat) d u, L[i]? = some x → (enc x)[j]? = some d → xs[i * e + j]? = some u → ∀ C, Rep C d u

def rowAns (s : St) (d : D) (α : Type) (el : TypeId) (e : Nat) (enc : α → List D) (L : List α) : Prop := match d with
  | .grow id => (∀ x, (enc x).all (flatD 1) = true) ∧ lget s.H id = some (.grow α el e enc L)
  | .v (.slice none 0 0) => L = []
  | _ => False

section
variable {P : Program} {tt : TT} {pl : Plans} {K : D → St → Prop} {f : FuncId} {args : List D} {α : Type} {el : TypeId} {e : Nat} {enc : α → List D} {L : List α}

theorem owns_nil (w : World) (el : TypeId) (e : Nat) : w.ownsRow 0 el e (.slice none 0 0) 0 [] := ⟨by simp, .inl ⟨rfl, rfl⟩⟩

theorem CallVC.row {F : List (Nat × D)} {H : List (Nat × LO)} {nx : Nat} {G : List Nat × Nat} {g : Bool} {args0 : List D} (hf : FnR P f args0 α el e enc L) (he : args.map (snapD 6 H) = args0) (h : K (.grow nx) ⟨F, (nx, .grow α el e enc L) :: H, nx + 1, G⟩) : CallVC P g f args ⟨F, H, nx, G⟩ K := by
  subst he
  generalize hs0 : (⟨F, H, nx, G⟩ : St) = s
  have hH : H = s.H := by rw [← hs0]
  rw [hH] at hf
  replace h : K (.grow s.nx) ⟨s.F, (s.nx, .grow α el e enc L) :: s.H, s.nx + 1, s.G⟩ := by rw [← hs0]; exact h
  clear hs0 hH
  refine ⟨hf.1, fun E σ τ a w args' hs hr => ?_⟩
  have hr' : reps (baseCtx w fun b => ((E.B b ∨ E.K b) ∨ E.w.heap.size ≤ b) ∧ b < w.heap.size) (args.map (snapD 6 s.H)) args' := by
    refine ⟨by simp [hr.1], fun j d u hd hu => ?_⟩
    rw [List.getElem?_map] at hd
    cases hq : args[j]? with
    | none => rw [hq] at hd; cases hd
    | some x =>
      rw [hq] at hd
      simp only [Option.map_some, Option.some.injEq] at hd
      subst hd
      exact snap_rep hs.heap 6 x u (hr.2 j x u hq hu)
  refine (hf.2 w _ args' (fun b hb => hb.2) hr').mono fun x w' hh => ?_
  obtain ⟨v, xs, rfl, hu, hsl, hbk, hown, hlen, hrep⟩ := hh
  let τ1 : Nat → Value := fun i => if i = s.nx then v else τ i
  have hτ : τ1 s.nx = v := if_pos rfl
  have own : ∀ id k, owned [(s.nx, .grow α el e enc L)] σ τ1 id k → id = s.nx := by
    intro id k ho
    by_cases hid : id = s.nx
    · exact hid
    · rcases ho with ⟨el', l', h1, _⟩ | ⟨α, el', e, enc, L, h1, _⟩ | ⟨o, h1, _⟩ <;> (rw [lget_ne _ _ hid] at h1; cases h1)
  have h2 : HR (freshEnv E s σ τ w 1) [(s.nx, .grow α el e enc L)] (s.nx + 1) σ τ1 w' := by
    refine ⟨⟨hu.os, hu.tape, hu.output, hu.size, fun k hk _ => hu.block k hk, hu.drawn⟩, fun k hk => ⟨fun h => h, hk.2.1⟩, fun id el l hl => ?_, fun id α' el' e' enc' L' hl => ?_, fun i j k h1 h2 => (own i k h1).trans (own j k h2).symm, fun id o hl => ?_, fun id => ?_, fun id o hl => ?_⟩
    · by_cases hid : id = s.nx
      · subst hid; rw [lget_same] at hl; cases hl
      · rw [lget_ne _ _ hid] at hl; cases hl
    · by_cases hid : id = s.nx
      · subst hid
        rw [lget_same] at hl
        injection hl with hl; injection hl with q1 q2 q3 q4 q5; subst q1 q2 q3
        obtain rfl := eq_of_heq q4
        obtain rfl := eq_of_heq q5
        rw [hτ]
        exact ⟨fun g hg => .inr (hbk g hg), xs, hown, hlen, fun i x j d u hx hd hu => hrep i x j d u hx hd hu _⟩
      · rw [lget_ne _ _ hid] at hl; cases hl
    · by_cases hid : id = s.nx
      · subst hid; exact Nat.lt_succ_self _
      · rw [lget_ne _ _ hid] at hl; cases hl
    · by_cases hid : id = s.nx
      · subst hid; rw [hτ]; exact hsl
      · show ∃ p l c, (if id = s.nx then v else τ id) = _
        rw [if_neg hid]; exact hs.heap.slices id
    · by_cases hid : id = s.nx
      · subst hid; rw [lget_same] at hl; cases hl
      · rw [lget_ne _ _ hid] at hl; cases hl
  have hge : idsGe s.nx [(s.nx, .grow α el e enc L)] = true := by
    simp only [idsGe, loGe, Bool.and_true]
    exact Nat.ble_eq_true_of_le (Nat.le_refl _)
  obtain ⟨hbel, σ2, τ2, h6, h7⟩ := merge_state hs h2 hge (Nat.le_succ _)
  exact ⟨_, _, σ2, τ2, _, h, rfl, h6, h7 _ _ (Nat.ble_eq_true_of_le (Nat.le_refl _)) (.grow ⟨Nat.lt_succ_self _, hτ.symm⟩), fun _ => hbel⟩
end
end Go.Proofs.Ytfghccppoilfhaa.V
namespace Go.Proofs.Ytfghccppoilfhaa.V
open Go.RowKit
section
variable {P : Program} {tt : TT} {pl : Plans} {s : St} {K : D → St → Prop} {f : FuncId} {args : List D}

theorem CallVC.to {m : Nat} (htt : ttOk P tt) (hb : entersAll P = true) (hm : P.follows .mixedOrders = true) {fn : Func} {c : Code} (hfn : P.funcs[f]? = some fn) (hc : fn.body = some c) (hok : codeOk pl fn.ntmps c = true) (hn : args.length ≤ fn.ntmps) (h0 : 0 < fn.ntmps)
    (hG : Nat.ble s.G.2 m = true) (hmx : Nat.ble m s.nx = true) (hF : s.F.all (fun p => cutOk 6 m p.2) = true)
    (h : wpc P tt pl c ⟨enumD args 0, s.H, s.nx, (upto m 0, m)⟩ fun e s' => endK e (resK tt s' fn.results.toList fun l => seeD (oneD l) fun d => ∃ r z d' H' n', Cover r z ⟨(0, d) :: s'.F, s'.H, s'.nx, s'.G⟩ ⟨[(0, d')], H', n', (upto m 0, m)⟩ ∧ K d' ⟨s.F, H', n', s.G⟩)) : CallVC P false f args s K := by
  have hG := Nat.le_of_ble_eq_true hG
  have hmx := Nat.le_of_ble_eq_true hmx
  refine ⟨⟨fn, hfn, by rw [hc]; rfl⟩, fun E σ τ a w args' hs hr => ?_⟩
  let X' : List Nat × Nat → D → Value → Prop := fun G d v => E.X G d v ∨ (G = (upto m 0, m) ∧ (d = .junk ∨ ∃ i, lget s.F i = some d ∧ v = a.tmps.getD i undef))
  let E' : Env := ⟨E.w, E.B, E.K, fn.ntmps, X'⟩
  have hheap : HR E' s.H s.nx σ τ w := ⟨⟨hs.heap.kept.os, hs.heap.kept.tape, hs.heap.kept.output, hs.heap.kept.size, hs.heap.kept.block, hs.heap.kept.drawn⟩, hs.heap.few, hs.heap.cells, hs.heap.grow, hs.heap.apart, hs.heap.below, hs.heap.slices, hs.heap.obj⟩
  have hlen : args'.length ≤ fn.ntmps := by rw [hr.1]; exact hn
  have hget : ∀ (l : List (Nat × D)), l.all (fun p => cutOk 6 m p.2) = true → ∀ i d, lget l i = some d → cutOk 6 m d = true := by
    intro l
    induction l with
    | nil => intro _ i d h; cases h
    | cons p l ih =>
      intro hl i d h
      obtain ⟨k, x⟩ := p
      simp only [List.all_cons, Bool.and_eq_true] at hl
      rw [lget] at h
      split at h
      · injection h with h; subst h; exact hl.1
      · exact ih hl.2 i d h
  have hs' : SR E' ⟨enumD args 0, s.H, s.nx, (upto m 0, m)⟩ σ τ { tmps := args'.toArray ++ Array.replicate (fn.ntmps - args'.toArray.size) undef, defers := [] } w := by
    refine ⟨hheap, rfl, by simp [E']; omega, fun i d hd => enter_slots hr fn.ntmps i d hd, fun G d v hx => ?_, hmx⟩
    rcases hx with hx | ⟨rfl, rfl | ⟨i, hi, rfl⟩⟩
    · obtain ⟨g1, g2, g3⟩ := hs.ghost G d v hx
      refine ⟨fun id h1 h2 => ?_, Nat.le_trans g2 hG, g3⟩
      have h3 := (g1 id h1 h2).1
      exact ⟨Nat.lt_of_lt_of_le h3 hG, (upto_mem _ _ _).2 ⟨Nat.zero_le _, by omega⟩⟩
    · exact ⟨fun id h1 h2 => ⟨h1, h2⟩, Nat.le_refl _, .junk⟩
    · refine ⟨fun id h1 h2 => ⟨h1, h2⟩, Nat.le_refl _, (cut_rep 6 d _ _ (hget _ hF i d hi) (hs.slots i d hi)).mono ⟨fun _ _ _ h => h, fun _ h => h, fun id off v hv => hv, fun id v hv => ⟨⟨hv.1, (upto_mem _ _ _).2 ⟨Nat.zero_le _, by have := hv.1; omega⟩⟩, hv.2⟩, fun id off v hv => ⟨⟨hv.1, (upto_mem _ _ _).2 ⟨Nat.zero_le _, by have := hv.1; omega⟩⟩, hv.2⟩⟩⟩
  refine calls_of_wp hfn hc (wp_mono (wpc_sound (E := E') htt hb hm c hok _ _ _ _ _ w h hs') fun e a1 w1 hh => ?_)
  obtain ⟨x, s1, σ1, τ1, rfl, h1, h2⟩ := hh
  have fin : resK tt s1 fn.results.toList (fun l => seeD (oneD l) fun d => ∃ r z d' H' n', Cover r z ⟨(0, d) :: s1.F, s1.H, s1.nx, s1.G⟩ ⟨[(0, d')], H', n', (upto m 0, m)⟩ ∧ K d' ⟨s.F, H', n', s.G⟩) →
      a1.defers = [] ∧ ∃ v, (results fn a1.tmps).run P w1 = .ok v w1 ∧ ∃ d s' σ' τ' u, K d s' ∧ Ending.returned v = .returned u ∧ SR E s' σ' τ' a w1 ∧ Rep (ctxOf E s'.H s'.nx σ' τ' w1) d u ∧ (false = true → Below w.heap.size w w1) := by
    intro hres
    obtain ⟨l, vs, h3, h4, h5⟩ := resK_run htt h2 _ _ hres
    rw [seeD_eq] at h3
    obtain ⟨r, z, d', H', n', hcov, hk⟩ := h3
    have hput := put_state h2 (oneD_rep h4) (dst := some 0) (fun i hi => by injection hi with hi; subst hi; exact h0)
    have hcv := cover_state hcov hput
    have hd0 := hcv.slots 0 d' (lget_same 0 d' [])
    have hval : (a1.put (some 0) (oneV vs)).tmps.getD 0 undef = oneV vs := by
      have hsz : 0 < a1.tmps.size := by rw [h2.size]; exact h0
      simp [Act.put, Array.getD_eq_getD_getElem?, hsz]
    rw [hval] at hd0
    refine ⟨h2.defers, _, results_at h5, _, _, _, _, _, hk, rfl, ⟨⟨⟨hcv.heap.kept.os, hcv.heap.kept.tape, hcv.heap.kept.output, hcv.heap.kept.size, hcv.heap.kept.block, hcv.heap.kept.drawn⟩, hcv.heap.few, hcv.heap.cells, hcv.heap.grow, hcv.heap.apart, hcv.heap.below, hcv.heap.slices, hcv.heap.obj⟩, hs.defers, hs.size, fun i d hd => ?_, fun G d v hx => ?_, ?_⟩, hd0, fun h => by cases h⟩
    · exact (hcv.ghost _ _ _ (.inr ⟨rfl, .inr ⟨i, hd, rfl⟩⟩)).2.2.mono (Ctx.only_le _ _)
    · obtain ⟨g1, g2, _⟩ := hs.ghost G d v hx
      exact ⟨g1, g2, (hcv.ghost G d v (.inl hx)).2.2⟩
    · show s.G.2 ≤ n'
      have hr' : m ≤ n' := hcv.room
      omega
  cases x with
  | normal => exact fin h1
  | ret => exact fin h1
  | exit i => exact h1.elim
end
end Go.Proofs.Ytfghccppoilfhaa.V
namespace Go.Proofs.Ytfghccppoilfhaa.V
open Go.RowKit
section
variable {P : Program} {tt : TT} {s : St}
theorem encode_low {n : Nat} (h : n < 128) : Utf8.encode (n : Int) = strB [n] := by
  have : ∀ n : Nat, n < 128 → Utf8.encode (n : Int) = strB [n] := by decide +kernel
  exact this n h
theorem op_runeStr (htt : ttOk P tt) {g : Bool} {o : Oper} {t u : TypeId} {x : Operand} {k : IntKind} {n : Nat} {a1 a2 a3 : _} {ti : TI} (ho : o.op = .convert t u x) (ht : tfind tt t = some ti) (hu : tfind tt u = some ⟨.str, a1, a2, a3⟩) (hx : evD s x = .v (.int k n)) (hn : n < 128)
    {K : D → St → Prop} (h : K (strD [n]) s) : OpVC P g o s K := by
  intro E σ τ a w hs next Q hnx
  obtain ⟨_, _, _, k1, _, _, _, _⟩ := view_spec (tfind_view htt ht)
  obtain ⟨_, _, _, r1, _, _, r4, _⟩ := view_spec (tfind_view htt hu)
  have := ud_str r4; subst this
  have hxr := evD_rep hs x
  rw [hx] at hxr
  have hxv := rep_v hxr
  unfold Oper.wp
  have hrun : (execOp a.eval o).run P w = .ok (.value (.string (strB [n]))) w := by
    have hc := run_convert_int_string (P := P) w t u k n (by rw [k1]; rfl) r1
    simp only [execOp, ho, hxv, Sem.run_bind, hc, Result.andThen, encode_low hn]
    rfl
  rw [hrun]
  exact hnx _ _ _ _ _ _ h hs .v (fun _ => Below.refl _ _)
end
end Go.Proofs.Ytfghccppoilfhaa.V
