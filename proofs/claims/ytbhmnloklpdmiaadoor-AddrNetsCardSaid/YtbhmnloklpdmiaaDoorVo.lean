/-
  Calls whose answer lies in memory of their own. Conditions: the table of types says what the program's says; functions are entered; plans are ones.
-/
import Derived.Test.YtbhmnloklpdmiaaDoorVm
namespace Go.Proofs.YtbhmnloklpdmiaaDoor.V
open Go.RowKit

def geOk : Nat → Nat → D → Bool
  | 0, _, _ => false
  | _ + 1, _, .v _ => true
  | _ + 1, _, .rows _ _ _ _ => true
  | _ + 1, _, .emp => true
  | _ + 1, _, .junk => true
  | _ + 1, n, .loc id _ => Nat.ble n id
  | _ + 1, n, .grow id => Nat.ble n id
  | _ + 1, n, .op id _ _ _ => Nat.ble n id
  | _ + 1, n, .win id _ _ _ => Nat.ble n id
  | _ + 1, n, .cut id _ => Nat.ble n id
  | k + 1, n, .agg l => l.all (geOk k n)
  | k + 1, n, .tup l => l.all (geOk k n)
  | k + 1, n, .fp l => l.all (geOk k n)
  | k + 1, n, .lit _ L => L.all fun l => l.all (geOk k n)
  | k + 1, n, .fn _ a b => a.all (geOk k n) && b.all (geOk k n)
  | k + 1, n, .iface _ d => geOk k n d
  | _ + 1, n, .mapr id => Nat.ble n id
  | _ + 1, _, .sp _ => true

def Ctx.ge (C : Ctx) (n : Nat) : Ctx := ⟨C.w, C.ok, fun id off v => n ≤ id ∧ C.loc id off v, fun id v => n ≤ id ∧ C.grow id v, fun id off v => n ≤ id ∧ C.op id off v⟩

theorem ge_rep {n : Nat} : ∀ (k : Nat) (d : D) (C : Ctx) (v : Value), geOk k n d = true → Rep C d v → Rep (C.ge n) d v := by
  intro k
  induction k with
  | zero => intro d C v h; simp [geOk] at h
  | succ k ih =>
    intro d C v h hr
    cases hr with
    | v => exact .v
    | agg hs hh => exact .agg hs fun j d u a b => ih d C u (all_at (by simpa [geOk] using h) a) (hh j d u a b)
    | tup hs hh => exact .tup hs fun j d u a b => ih d C u (all_at (by simpa [geOk] using h) a) (hh j d u a b)
    | rows b o g hc hp hl hcell hrep => exact .rows b o g hc hp hl hcell hrep
    | lit b o g hc hp hl hcell hrep =>
      simp only [geOk, List.all_eq_true] at h
      exact .lit b o g hc hp hl hcell fun i x j d hx hd => ih d C _ (h x (List.mem_of_getElem? hx) d (List.mem_of_getElem? hd)) (hrep i x j d hx hd)
    | emp => exact .emp
    | fp g hk hcell hrep => exact .fp g hk hcell fun j d hd => ih d C _ (all_at (by simpa [geOk] using h) hd) (hrep j d hd)
    | loc hh => exact .loc ⟨Nat.le_of_ble_eq_true h, hh⟩
    | grow hh => exact .grow ⟨Nat.le_of_ble_eq_true h, hh⟩
    | op hh => exact .op ⟨Nat.le_of_ble_eq_true h, hh⟩
    | win hh hc => exact .win (fun hn => ⟨Nat.le_of_ble_eq_true h, hh hn⟩) hc
    | cut hh hn => exact .cut ⟨Nat.le_of_ble_eq_true h, hh⟩ hn
    | fn hs ht hh hh' =>
      simp only [geOk, List.all_eq_true, Bool.and_eq_true] at h
      exact .fn hs ht (fun j d u a b => ih d C u (h.1 d (List.mem_of_getElem? a)) (hh j d u a b)) fun j d u a b => ih d C u (h.2 d (List.mem_of_getElem? a)) (hh' j d u a b)
    | iface hh => exact .iface (ih _ C _ h hh)
    | mapr hh => exact .mapr ⟨Nat.le_of_ble_eq_true h, hh⟩
    | sp S hA hS => exact .sp S hA hS
    | junk => exact .junk

def loGe (n : Nat) : LO → Bool
  | .cells _ l => l.all (geOk 6 n)
  | .grow _ _ _ _ _ => true
  | .obj _ => true
  | .dead => true
def idsGe (n : Nat) : List (Nat × LO) → Bool
  | [] => true
  | (i, o) :: r => Nat.ble n i && loGe n o && idsGe n r
def freshOk (n : Nat) (H : List (Nat × LO)) (d : D) : Bool := idsGe n H && geOk 6 n d
theorem idsGe_get {n : Nat} : ∀ {H : List (Nat × LO)}, idsGe n H = true → ∀ id o, lget H id = some o → n ≤ id ∧ loGe n o = true
  | [], _, _, _, h => by cases h
  | (i, x) :: r, hh, id, o, h => by
    simp only [idsGe, Bool.and_eq_true] at hh
    by_cases hi : id = i
    · subst hi
      rw [lget_same] at h
      injection h with h; subst h
      exact ⟨Nat.le_of_ble_eq_true hh.1.1, hh.1.2⟩
    · rw [lget_ne _ _ hi] at h
      exact idsGe_get hh.2 id o h
theorem lget_append {β : Type 1} : ∀ (A B : List (Nat × β)) (i : Nat), lget (A ++ B) i = match lget A i with
    | some x => some x
    | none => lget B i
  | [], B, i => rfl
  | (k, x) :: r, B, i => by
    by_cases hi : i = k
    · subst hi
      rw [List.cons_append, lget_same, lget_same]
    · rw [List.cons_append, lget_ne _ _ hi, lget_ne _ _ hi, lget_append r B i]

section
variable {P : Program} {tt : TT} {pl : Plans} {s : St} {K : D → St → Prop} {f : FuncId} {args : List D}

/-- Where a call begins that may turn nothing. -/
def freshEnv (E : Env) (s : St) (σ : Nat → Nat) (τ : Nat → Value) (w : World) (n : Nat) : Env := ⟨w, (ctxOf E s.H s.nx σ τ w).ok, fun _ => False, n, fun _ _ _ => False⟩

/-- Memory that a call made, beside what was there. -/
theorem merge_state {E : Env} {σ : Nat → Nat} {τ : Nat → Value} {a : Act} {w : World} (hs : SR E s σ τ a w) {n : Nat} {H1 : List (Nat × LO)} {nx1 : Nat} {σ1 : Nat → Nat} {τ1 : Nat → Value} {w1 : World} (h2 : HR (freshEnv E s σ τ w n) H1 nx1 σ1 τ1 w1) (hfr : idsGe s.nx H1 = true) (hnx : s.nx ≤ nx1) :
    Below w.heap.size w w1 ∧ ∃ σ2 τ2, SR E ⟨s.F, H1 ++ s.H, nx1, s.G⟩ σ2 τ2 a w1 ∧ ∀ d v, geOk 6 s.nx d = true → Rep (ctxOf (freshEnv E s σ τ w n) H1 nx1 σ1 τ1 w1) d v → Rep (ctxOf E (H1 ++ s.H) nx1 σ2 τ2 w1) d v := by
  have hbel : Under w.heap.size w w1 := ⟨⟨h2.kept.os, h2.kept.tape, h2.kept.output, h2.kept.size, fun k hk => h2.kept.block k hk (fun h => h)⟩, h2.kept.drawn⟩
  have hge := idsGe_get hfr
  let σ2 : Nat → Nat := fun id => if id < s.nx then σ id else σ1 id
  let τ2 : Nat → Value := fun id => if id < s.nx then τ id else τ1 id
  have σlo : ∀ id, id < s.nx → σ2 id = σ id := fun id h => if_pos h
  have σhi : ∀ id, s.nx ≤ id → σ2 id = σ1 id := fun id h => if_neg (by omega)
  have τlo : ∀ id, id < s.nx → τ2 id = τ id := fun id h => if_pos h
  have τhi : ∀ id, s.nx ≤ id → τ2 id = τ1 id := fun id h => if_neg (by omega)
  -- which object is whose
  have hget : ∀ id o, lget (H1 ++ s.H) id = some o → (s.nx ≤ id ∧ loGe s.nx o = true ∧ lget H1 id = some o) ∨ (id < s.nx ∧ lget s.H id = some o) := by
    intro id o ho
    rw [lget_append] at ho
    cases hq : lget H1 id with
    | some x =>
      rw [hq] at ho
      injection ho with ho; subst ho
      exact .inl ⟨(hge id x hq).1, (hge id x hq).2, rfl⟩
    | none =>
      rw [hq] at ho
      exact .inr ⟨hs.heap.below id o ho, ho⟩
  have hown : ∀ id b, owned (H1 ++ s.H) σ2 τ2 id b → (s.nx ≤ id ∧ owned H1 σ1 τ1 id b) ∨ (id < s.nx ∧ owned s.H σ τ id b) := by
    intro id b ho
    rcases ho with ⟨el, l, h6, h7⟩ | ⟨α, el, e, enc, L, h6, h7⟩ | ⟨o, h6, h7⟩
    rotate_left 2
    · rcases hget id _ h6 with ⟨h8, _, h9⟩ | ⟨h8, h9⟩
      · exact .inl ⟨h8, .inr (.inr ⟨o, h9, by rw [← σhi id h8]; exact h7⟩)⟩
      · exact .inr ⟨h8, .inr (.inr ⟨o, h9, by rw [← σlo id h8]; exact h7⟩)⟩
    · rcases hget id _ h6 with ⟨h8, _, h9⟩ | ⟨h8, h9⟩
      · exact .inl ⟨h8, .inl ⟨el, l, h9, by rw [← σhi id h8]; exact h7⟩⟩
      · exact .inr ⟨h8, .inl ⟨el, l, h9, by rw [← σlo id h8]; exact h7⟩⟩
    · rcases hget id _ h6 with ⟨h8, _, h9⟩ | ⟨h8, h9⟩
      · exact .inl ⟨h8, .inr (.inl ⟨α, el, e, enc, L, h9, by rw [← τhi id h8]; exact h7⟩)⟩
      · exact .inr ⟨h8, .inr (.inl ⟨α, el, e, enc, L, h9, by rw [← τlo id h8]; exact h7⟩)⟩
  have hnew : ∀ id b, owned H1 σ1 τ1 id b → w.heap.size ≤ b := by
    intro id b ho
    rcases ho with ⟨el, l, h6, rfl⟩ | ⟨α, el, e, enc, L, h6, h7⟩ | ⟨o, h6, h7⟩
    rotate_left 2
    · exact (((h2.obj id o h6).1 b h7).1).elim (fun h => h.elim) fun h => h
    · exact ((h2.cells id el l h6).1).elim (fun h => h.elim) fun h => h
    · exact ((h2.grow id α el e enc L h6).1 b h7).elim (fun h => h.elim) fun h => h
  have le1 : (ctxOf E s.H s.nx σ τ w).Le (ctxOf E (H1 ++ s.H) nx1 σ2 τ2 w1) := by
    refine ⟨fun b o hk hc => (hbel.block b hk.2.1).trans hc, fun b hk => ⟨hk.1, Nat.lt_of_lt_of_le hk.2.1 hbel.size, fun id ho => ?_⟩, fun id off v hv => ⟨Nat.lt_of_lt_of_le hv.1 hnx, by rw [σlo id hv.1]; exact hv.2⟩, fun id v hv => ⟨Nat.lt_of_lt_of_le hv.1 hnx, by rw [τlo id hv.1]; exact hv.2⟩,
      fun id off v hv => ⟨Nat.lt_of_lt_of_le hv.1 hnx, by rw [τlo id hv.1]; exact hv.2⟩⟩
    rcases hown id b ho with ⟨_, h6⟩ | ⟨_, h6⟩
    · have := hnew id b h6; have := hk.2.1; omega
    · exact hk.2.2 id h6
  have le2 : ((ctxOf (freshEnv E s σ τ w n) H1 nx1 σ1 τ1 w1).ge s.nx).Le (ctxOf E (H1 ++ s.H) nx1 σ2 τ2 w1) := by
    refine ⟨fun _ _ _ h => h, fun b hk => ⟨?_, hk.2.1, fun id ho => ?_⟩, fun id off v hv => ⟨hv.2.1, by rw [σhi id hv.1]; exact hv.2.2⟩, fun id v hv => ⟨hv.2.1, by rw [τhi id hv.1]; exact hv.2.2⟩, fun id off v hv => ⟨hv.2.1, by rw [τhi id hv.1]; exact hv.2.2⟩⟩
    · rcases hk.1 with h6 | h6 | h6
      · exact h6.1
      · exact h6.elim
      · exact .inr (.inr (Nat.le_trans hs.heap.kept.size h6))
    · rcases hown id b ho with ⟨_, h6⟩ | ⟨_, h6⟩
      · exact hk.2.2 id h6
      · rcases hk.1 with h7 | h7 | h7
        · exact h7.2.2 id h6
        · exact h7.elim
        · have := owned_lt hs.heap h6
          have h7 : w.heap.size ≤ b := h7
          omega
  refine ⟨hbel.toBelow, σ2, τ2, ⟨⟨hs.heap.kept.below hbel, hs.heap.few, fun id el l h6 => ?_, fun id α el e enc L h6 => ?_, fun i j b h6 h7 => ?_, fun id o h6 => ?_, fun id => ?_, fun id o h6 => by
    rcases hget id _ h6 with ⟨h8, h9, h10⟩ | ⟨h8, h10⟩
    · obtain ⟨h11, h12⟩ := h2.obj id o h10
      rw [σhi id h8]
      exact ⟨fun k hk => ⟨.inr (Nat.le_trans hs.heap.kept.size ((h11 k hk).1.elim (fun h => h.elim) fun h => h)), (h11 k hk).2⟩, OA.at_mono h12 (fun _ _ => rfl) (Nat.le_refl _) le2.still⟩
    · obtain ⟨h11, h12⟩ := hs.heap.obj id o h10
      rw [σlo id h8]
      exact ⟨fun k hk => ⟨(h11 k hk).1, Nat.lt_of_lt_of_le (h11 k hk).2 hbel.size⟩, OA.at_mono h12 (fun k hk => hbel.block k (h11 k hk).2) hbel.size le1.still⟩⟩, hs.defers, hs.size, fun i d hd => (hs.slots i d hd).mono le1, hs.ghost_le (s' := ⟨s.F, H1 ++ s.H, nx1, s.G⟩) rfl le1, Nat.le_trans hs.room hnx⟩,
    fun d v hd hr => (ge_rep 6 _ _ _ hd hr).mono le2⟩
  · rcases hget id _ h6 with ⟨h8, h9, h10⟩ | ⟨h8, h10⟩
    · obtain ⟨h11, c1, h12, h13, h14⟩ := h2.cells id el l h10
      rw [σhi id h8]
      refine ⟨.inr (Nat.le_trans hs.heap.kept.size (h11.elim (fun h => h.elim) fun h => h)), c1, h12, h13, fun j d u hd hu => (ge_rep 6 _ _ _ ?_ (h14 j d u hd hu)).mono le2⟩
      simp only [loGe] at h9
      exact all_at h9 hd
    · obtain ⟨h11, c1, h12, h13, h14⟩ := hs.heap.cells id el l h10
      rw [σlo id h8]
      exact ⟨h11, c1, (hbel.block _ (Array.getElem?_eq_some_iff.1 h12).1).trans h12, h13, fun j d u hd hu => (h14 j d u hd hu).mono le1⟩
  · rcases hget id _ h6 with ⟨h8, h9, h10⟩ | ⟨h8, h10⟩
    · obtain ⟨h11, xs, h12, h13, h14⟩ := h2.grow id α el e enc L h10
      rw [τhi id h8]
      exact ⟨fun g hg => .inr (Nat.le_trans hs.heap.kept.size ((h11 g hg).elim (fun h => h.elim) fun h => h)), xs, h12, h13, fun i x j d u hx hd hu => (h14 i x j d u hx hd hu).mono (le2.still)⟩
    · obtain ⟨h11, xs, h12, h13, h14⟩ := hs.heap.grow id α el e enc L h10
      rw [τlo id h8]
      exact ⟨h11, xs, own_below h12 hbel.toBelow, h13, fun i x j d u hx hd hu => (h14 i x j d u hx hd hu).mono le1.still⟩
  · rcases hown i b h6 with ⟨h8, h9⟩ | ⟨h8, h9⟩ <;> rcases hown j b h7 with ⟨h10, h11⟩ | ⟨h10, h11⟩
    · exact h2.apart i j b h9 h11
    · have := hnew i b h9; have := owned_lt hs.heap h11; omega
    · have := hnew j b h11; have := owned_lt hs.heap h9; omega
    · exact hs.heap.apart i j b h9 h11
  · rcases hget id _ h6 with ⟨_, _, h10⟩ | ⟨h8, _⟩
    · exact h2.below id o h10
    · exact Nat.lt_of_lt_of_le h8 hnx
  · by_cases hid : id < s.nx
    · rw [τlo id hid]; exact hs.heap.slices id
    · rw [τhi id (by omega)]; exact h2.slices id

theorem fresh_start {E : Env} {σ : Nat → Nat} {τ : Nat → Value} {a : Act} {w : World} (hs : SR E s σ τ a w) {n : Nat} {args' : List Value} (hr : reps (ctxOf E s.H s.nx σ τ w) args args') (hlen : args'.length ≤ n) (hcut : args.all (cutOk 6 0) = true) :
    SR (freshEnv E s σ τ w n) ⟨enumD args 0, [], s.nx, ([], 0)⟩ σ τ { tmps := args'.toArray ++ Array.replicate (n - args'.toArray.size) undef, defers := [] } w := by
  have hr0 : reps (ctxOf (freshEnv E s σ τ w n) [] s.nx σ τ w) args args' := ⟨hr.1, fun j d u hd hu => (cut_rep 6 d _ u (all_at hcut hd) (hr.2 j d u hd hu)).mono
    ⟨fun _ _ _ h => h, (fun b hb => ⟨.inl hb, hb.2.1, fun id ho => by rcases ho with ⟨_, _, h, _⟩ | ⟨_, _, _, _, _, h, _⟩ | ⟨_, h, _⟩ <;> cases h⟩), fun _ _ _ h => absurd h.1 (Nat.not_lt_zero _), fun _ _ h => absurd h.1 (Nat.not_lt_zero _), fun _ _ _ h => absurd h.1 (Nat.not_lt_zero _)⟩⟩
  exact ⟨⟨⟨rfl, rfl, rfl, Nat.le_refl _, fun _ _ _ => rfl, Nat.le_refl _⟩, fun b hb => ⟨fun h => h, hb.2.1⟩, (fun id el l h => by cases h), (fun id α el e enc L h => by cases h), (fun i j b h => by rcases h with ⟨_, _, h, _⟩ | ⟨_, _, _, _, _, h, _⟩ | ⟨_, h, _⟩ <;> cases h), (fun id o h => by cases h), hs.heap.slices, fun id o h => by cases h⟩,
      rfl, by simp [freshEnv]; omega, fun i d hd => enter_slots hr0 n i d hd, fun _ _ _ h => h.elim, Nat.zero_le _⟩

/-- A call gone into, whose answer lies in memory of its own: what was there has not turned. -/
theorem CallVC.fresh {g : Bool} (htt : ttOk P tt) (hb : entersAll P = true) (hm : P.follows .mixedOrders = true) {fn : Func} {c : Code} (hfn : P.funcs[f]? = some fn) (hc : fn.body = some c) (hok : codeOk pl fn.ntmps c = true) (hn : args.length ≤ fn.ntmps) (hcut : args.all (cutOk 6 0) = true)
    (h : wpc P tt pl c ⟨enumD args 0, [], s.nx, ([], 0)⟩ fun e s' => endK e (resK tt s' fn.results.toList fun l => seeD (oneD l) fun d => freshOk s.nx s'.H d = true ∧ Nat.ble s.nx s'.nx = true ∧ K d ⟨s.F, s'.H ++ s.H, s'.nx, s.G⟩)) : CallVC P g f args s K := by
  refine ⟨⟨fn, hfn, by rw [hc]; rfl⟩, fun E σ τ a w args' hs hr => ?_⟩
  refine calls_of_wp hfn hc (wp_mono (wpc_sound (E := freshEnv E s σ τ w fn.ntmps) htt hb hm c hok _ _ _ _ _ w h (fresh_start hs hr (by rw [hr.1]; exact hn) hcut)) fun e a1 w1 hh => ?_)
  obtain ⟨x, s1, σ1, τ1, rfl, h1, h2⟩ := hh
  have fin : resK tt s1 fn.results.toList (fun l => seeD (oneD l) fun d => freshOk s.nx s1.H d = true ∧ Nat.ble s.nx s1.nx = true ∧ K d ⟨s.F, s1.H ++ s.H, s1.nx, s.G⟩) →
      a1.defers = [] ∧ ∃ v, (results fn a1.tmps).run P w1 = .ok v w1 ∧ ∃ d s' σ' τ' u, K d s' ∧ Ending.returned v = .returned u ∧ SR E s' σ' τ' a w1 ∧ Rep (ctxOf E s'.H s'.nx σ' τ' w1) d u ∧ (g = true → Below w.heap.size w w1) := by
    intro hres
    obtain ⟨l, vs, h3, h4, h5⟩ := resK_run htt h2 _ _ hres
    rw [seeD_eq] at h3
    obtain ⟨hfr, hnx, hk⟩ := h3
    simp only [freshOk, Bool.and_eq_true] at hfr
    obtain ⟨hbel, σ2, τ2, h6, h7⟩ := merge_state hs h2.heap hfr.1 (Nat.le_of_ble_eq_true hnx)
    exact ⟨h2.defers, _, results_at h5, _, _, σ2, τ2, _, hk, rfl, h6, h7 _ _ hfr.2 (oneD_rep h4), fun _ => hbel⟩
  cases x with
  | normal => exact fin h1
  | ret => exact fin h1
  | exit i => exact h1.elim

/-- The same; the answer is told by other numbers. -/
theorem CallVC.freshTo {g : Bool} (htt : ttOk P tt) (hb : entersAll P = true) (hm : P.follows .mixedOrders = true) {fn : Func} {c : Code} (hfn : P.funcs[f]? = some fn) (hc : fn.body = some c) (hok : codeOk pl fn.ntmps c = true) (hn : args.length ≤ fn.ntmps) (h0 : 0 < fn.ntmps) (hcut : args.all (cutOk 6 0) = true)
    (h : wpc P tt pl c ⟨enumD args 0, [], s.nx, ([], 0)⟩ fun e s' => endK e (resK tt s' fn.results.toList fun l => seeD (oneD l) fun d => ∃ r z d' H' n', Cover r z ⟨(0, d) :: s'.F, s'.H, s'.nx, s'.G⟩ ⟨[(0, d')], H', n', ([], 0)⟩ ∧ freshOk s.nx H' d' = true ∧ Nat.ble s.nx n' = true ∧ K d' ⟨s.F, H' ++ s.H, n', s.G⟩)) : CallVC P g f args s K := by
  refine ⟨⟨fn, hfn, by rw [hc]; rfl⟩, fun E σ τ a w args' hs hr => ?_⟩
  refine calls_of_wp hfn hc (wp_mono (wpc_sound (E := freshEnv E s σ τ w fn.ntmps) htt hb hm c hok _ _ _ _ _ w h (fresh_start hs hr (by rw [hr.1]; exact hn) hcut)) fun e a1 w1 hh => ?_)
  obtain ⟨x, s1, σ1, τ1, rfl, h1, h2⟩ := hh
  have fin : resK tt s1 fn.results.toList (fun l => seeD (oneD l) fun d => ∃ r z d' H' n', Cover r z ⟨(0, d) :: s1.F, s1.H, s1.nx, s1.G⟩ ⟨[(0, d')], H', n', ([], 0)⟩ ∧ freshOk s.nx H' d' = true ∧ Nat.ble s.nx n' = true ∧ K d' ⟨s.F, H' ++ s.H, n', s.G⟩) →
      a1.defers = [] ∧ ∃ v, (results fn a1.tmps).run P w1 = .ok v w1 ∧ ∃ d s' σ' τ' u, K d s' ∧ Ending.returned v = .returned u ∧ SR E s' σ' τ' a w1 ∧ Rep (ctxOf E s'.H s'.nx σ' τ' w1) d u ∧ (g = true → Below w.heap.size w w1) := by
    intro hres
    obtain ⟨l, vs, h3, h4, h5⟩ := resK_run htt h2 _ _ hres
    rw [seeD_eq] at h3
    obtain ⟨r, z, d', H', n', hcov, hfr, hnx, hk⟩ := h3
    simp only [freshOk, Bool.and_eq_true] at hfr
    have hput := put_state h2 (oneD_rep h4) (dst := some 0) (fun i hi => by injection hi with hi; subst hi; exact h0)
    have hcv := cover_state hcov hput
    have hd0 := hcv.slots 0 d' (lget_same 0 d' [])
    have hval : (a1.put (some 0) (oneV vs)).tmps.getD 0 undef = oneV vs := by
      have hsz : 0 < a1.tmps.size := by rw [h2.size]; exact h0
      simp [Act.put, Array.getD_eq_getD_getElem?, hsz]
    rw [hval] at hd0
    obtain ⟨hbel, σ2, τ2, h6, h7⟩ := merge_state hs hcv.heap hfr.1 (Nat.le_of_ble_eq_true hnx)
    exact ⟨h2.defers, _, results_at h5, _, _, σ2, τ2, _, hk, rfl, h6, h7 _ _ hfr.2 hd0, fun _ => hbel⟩
  cases x with
  | normal => exact fin h1
  | ret => exact fin h1
  | exit i => exact h1.elim
end
end Go.Proofs.YtbhmnloklpdmiaaDoor.V
