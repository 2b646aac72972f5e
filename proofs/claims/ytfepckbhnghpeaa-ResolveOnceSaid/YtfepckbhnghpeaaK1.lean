/-
  Calls whose answer lies in memory of their own. Conditions: the table of types says what the program's says; functions are entered; plans are ones.
  A call gone into, told behind it by other numbers: places below a number stay, all others may be named anew. Conditions: the caller's slots name places below that number alone.
  Contracts with an object of one's own that is turned: its cells before and behind. Conditions: the table of types says what the program's says; functions are entered; plans are ones.
  Contracts that only look: nothing that was there turns, the answer lies in new memory. Conditions: the table of types says what the program's says; functions are entered; plans are ones.
  Clusters of one's own objects as one thing: what holds of a family of objects, in one predicate; contracts with a cluster. Conditions: the table of types says what the program's says; functions are entered; plans are ones.
  Exact pointers and rows: blocks of one's own that are known by their number; laws of what is done with them. Condition: the table of types says what the program's says.
  Maps of one's own by the law of their keys: looked up, a key added. Condition: the keys' type is one that has a law.
  Words for numbers, and what stands first in a row. No condition.
  Strings by their bytes, as numbers. No condition.
  Contracts that answer a new row of the caller's own. Conditions: the table of types says what the program's says; functions are entered; plans are ones.
  make([]T, n): a row of one's own of so many zeros. Conditions: at least one, not too many bytes.
-/
import Derived.Test.YtfepckbhnghpeaaVm
import Derived.MapKept
import Derived.DeepKeys3
import Derived.IntWalk
import Derived.Laws.BytesString
import Derived.Lib.Strings
import Derived.Laws.MakeOwn
namespace Go.Proofs.Ytfepckbhnghpeaa.V
open Go.RowKit

def geOk : Nat → Nat → D → Bool
  | 0, _, _ => false
  | _ + 1, _, .v _ => true
  | _ + 1, _, .rows _ _ _ _ => true
  | _ + 1, _, .emp => true
  | _ + 1, _, .junk => true
  | _ + 1, n, .loc id _ => Nat.ble n id
  | _ + 1, n, .grow id => Nat.ble n id
  | _ + 1, n, .op id _ _ _ => Nat.ble n id
  | _ + 1, n, .win id _ _ _ => Nat.ble n id
  | _ + 1, n, .cut id _ => Nat.ble n id
  | _ + 1, n, .cap id _ _ => Nat.ble n id
  | _ + 1, n, .asl id _ _ => Nat.ble n id
  | k + 1, n, .agg l => l.all (geOk k n)
  | k + 1, n, .tup l => l.all (geOk k n)
  | k + 1, n, .fp l => l.all (geOk k n)
  | k + 1, n, .lit _ L => L.all fun l => l.all (geOk k n)
  | k + 1, n, .fn _ a b => a.all (geOk k n) && b.all (geOk k n)
  | k + 1, n, .iface _ d => geOk k n d
  | _ + 1, n, .mapr id => Nat.ble n id
  | _ + 1, _, .sp _ => true

def Ctx.ge (C : Ctx) (n : Nat) : Ctx := ⟨C.w, C.ok, fun id off v => n ≤ id ∧ C.loc id off v, fun id v => n ≤ id ∧ C.grow id v, fun id off v => n ≤ id ∧ C.op id off v⟩

theorem ge_rep {n : Nat} : ∀ (k : Nat) (d : D) (C : Ctx) (v : Value), geOk k n d = true → Rep C d v → Rep (C.ge n) d v := by
  intro k
  induction k with
  | zero => intro d C v h; simp [geOk] at h
  | succ k ih =>
    intro d C v h hr
    cases hr with
    | v => exact .v
    | agg hs hh => exact .agg hs fun j d u a b => ih d C u (all_at (by simpa [geOk] using h) a) (hh j d u a b)
    | tup hs hh => exact .tup hs fun j d u a b => ih d C u (all_at (by simpa [geOk] using h) a) (hh j d u a b)
    | rows b o g hc hp hl hcell hrep => exact .rows b o g hc hp hl hcell hrep
    | lit b o g hc hp hl hcell hrep =>
      simp only [geOk, List.all_eq_true] at h
      exact .lit b o g hc hp hl hcell fun i x j d hx hd => ih d C _ (h x (List.mem_of_getElem? hx) d (List.mem_of_getElem? hd)) (hrep i x j d hx hd)
    | emp => exact .emp
    | fp g hk hcell hrep => exact .fp g hk hcell fun j d hd => ih d C _ (all_at (by simpa [geOk] using h) hd) (hrep j d hd)
    | loc hh => exact .loc ⟨Nat.le_of_ble_eq_true h, hh⟩
    | grow hh => exact .grow ⟨Nat.le_of_ble_eq_true h, hh⟩
    | op hh => exact .op ⟨Nat.le_of_ble_eq_true h, hh⟩
    | win hh hc => exact .win (fun hn => ⟨Nat.le_of_ble_eq_true h, hh hn⟩) hc
    | cut hh hn => exact .cut ⟨Nat.le_of_ble_eq_true h, hh⟩ hn
    | cap hh hn => exact .cap ⟨Nat.le_of_ble_eq_true h, hh⟩ hn
    | asl hh => exact .asl ⟨Nat.le_of_ble_eq_true h, hh⟩
    | fn hs ht hh hh' =>
      simp only [geOk, List.all_eq_true, Bool.and_eq_true] at h
      exact .fn hs ht (fun j d u a b => ih d C u (h.1 d (List.mem_of_getElem? a)) (hh j d u a b)) fun j d u a b => ih d C u (h.2 d (List.mem_of_getElem? a)) (hh' j d u a b)
    | iface hh => exact .iface (ih _ C _ h hh)
    | mapr hh => exact .mapr ⟨Nat.le_of_ble_eq_true h, hh⟩
    | sp S hA hS => exact .sp S hA hS
    | junk => exact .junk

def loGe (n : Nat) : LO → Bool
  | .cells _ l => l.all (geOk 6 n)
  | .grow _ _ _ _ _ => true
  | .obj _ => true
  | .dead => true
def idsGe (n : Nat) : List (Nat × LO) → Bool
  | [] => true
  | (i, o) :: r => Nat.ble n i && loGe n o && idsGe n r
theorem idsGe_get {n : Nat} : ∀ {H : List (Nat × LO)}, idsGe n H = true → ∀ id o, lget H id = some o → n ≤ id ∧ loGe n o = true
  | [], _, _, _, h => by cases h
  | (i, x) :: r, hh, id, o, h => by
    simp only [idsGe, Bool.and_eq_true] at hh
    by_cases hi : id = i
    · subst hi
      rw [lget_same] at h
      injection h with h; subst h
      exact ⟨Nat.le_of_ble_eq_true hh.1.1, hh.1.2⟩
    · rw [lget_ne _ _ hi] at h
      exact idsGe_get hh.2 id o h
theorem lget_append {β : Type 1} : ∀ (A B : List (Nat × β)) (i : Nat), lget (A ++ B) i = match lget A i with
    | some x => some x
    | none => lget B i
  | [], B, i => rfl
  | (k, x) :: r, B, i => by
    by_cases hi : i = k
    · subst hi
      rw [List.cons_append, lget_same, lget_same]
    · rw [List.cons_append, lget_ne _ _ hi, lget_ne _ _ hi, lget_append r B i]

section
variable {P : Program} {tt : TT} {pl : Plans} {s : St} {K : D → St → Prop} {f : FuncId} {args : List D}

def freshEnv (E : Env) (s : St) (σ : Nat → Nat) (τ : Nat → Value) (w : World) (n : Nat) : Env := ⟨w, (ctxOf E s.H s.nx σ τ w).ok, fun _ => False, n, fun _ _ _ => False⟩

theorem merge_state {E : Env} {σ : Nat → Nat} {τ : Nat → Value} {a : Act} {w : World} (hs : SR E s σ τ a w) {n : Nat} {H1 : List (Nat × LO)} {nx1 : Nat} {σ1 : Nat → Nat} {τ1 : Nat → Value} {w1 : World} (h2 : HR (freshEnv E s σ τ w n) H1 nx1 σ1 τ1 w1) (hfr : idsGe s.nx H1 = true) (hnx : s.nx ≤ nx1) :
    Below w.heap.size w w1 ∧ ∃ σ2 τ2, SR E ⟨s.F, H1 ++ s.H, nx1, s.G⟩ σ2 τ2 a w1 ∧ ∀ d v, geOk 6 s.nx d = true → Rep (ctxOf (freshEnv E s σ τ w n) H1 nx1 σ1 τ1 w1) d v → Rep (ctxOf E (H1 ++ s.H) nx1 σ2 τ2 w1) d v := by
  have hbel : Under w.heap.size w w1 := ⟨⟨h2.kept.os, h2.kept.tape, h2.kept.output, h2.kept.size, fun k hk => h2.kept.block k hk (fun h => h)⟩, h2.kept.drawn⟩
  have hge := idsGe_get hfr
  let σ2 : Nat → Nat := fun id => if id < s.nx then σ id else σ1 id
  let τ2 : Nat → Value := fun id => if id < s.nx then τ id else τ1 id
  have σlo : ∀ id, id < s.nx → σ2 id = σ id := fun id h => if_pos h
  have σhi : ∀ id, s.nx ≤ id → σ2 id = σ1 id := fun id h => if_neg (by omega)
  have τlo : ∀ id, id < s.nx → τ2 id = τ id := fun id h => if_pos h
  have τhi : ∀ id, s.nx ≤ id → τ2 id = τ1 id := fun id h => if_neg (by omega)
  -- which object is whose
  have hget : ∀ id o, lget (H1 ++ s.H) id = some o → (s.nx ≤ id ∧ loGe s.nx o = true ∧ lget H1 id = some o) ∨ (id < s.nx ∧ lget s.H id = some o) := by
    intro id o ho
    rw [lget_append] at ho
    cases hq : lget H1 id with
    | some x =>
      rw [hq] at ho
      injection ho with ho; subst ho
      exact .inl ⟨(hge id x hq).1, (hge id x hq).2, rfl⟩
    | none =>
      rw [hq] at ho
      exact .inr ⟨hs.heap.below id o ho, ho⟩
  have hown : ∀ id b, owned (H1 ++ s.H) σ2 τ2 id b → (s.nx ≤ id ∧ owned H1 σ1 τ1 id b) ∨ (id < s.nx ∧ owned s.H σ τ id b) := by
    intro id b ho
    rcases ho with ⟨el, l, h6, h7⟩ | ⟨α, el, e, enc, L, h6, h7⟩ | ⟨o, h6, h7⟩
    rotate_left 2
    · rcases hget id _ h6 with ⟨h8, _, h9⟩ | ⟨h8, h9⟩
      · exact .inl ⟨h8, .inr (.inr ⟨o, h9, by rw [← σhi id h8]; exact h7⟩)⟩
      · exact .inr ⟨h8, .inr (.inr ⟨o, h9, by rw [← σlo id h8]; exact h7⟩)⟩
    · rcases hget id _ h6 with ⟨h8, _, h9⟩ | ⟨h8, h9⟩
      · exact .inl ⟨h8, .inl ⟨el, l, h9, by rw [← σhi id h8]; exact h7⟩⟩
      · exact .inr ⟨h8, .inl ⟨el, l, h9, by rw [← σlo id h8]; exact h7⟩⟩
    · rcases hget id _ h6 with ⟨h8, _, h9⟩ | ⟨h8, h9⟩
      · exact .inl ⟨h8, .inr (.inl ⟨α, el, e, enc, L, h9, by rw [← τhi id h8]; exact h7⟩)⟩
      · exact .inr ⟨h8, .inr (.inl ⟨α, el, e, enc, L, h9, by rw [← τlo id h8]; exact h7⟩)⟩
  have hnew : ∀ id b, owned H1 σ1 τ1 id b → w.heap.size ≤ b := by
    intro id b ho
    rcases ho with ⟨el, l, h6, rfl⟩ | ⟨α, el, e, enc, L, h6, h7⟩ | ⟨o, h6, h7⟩
    rotate_left 2
    · exact (((h2.obj id o h6).1 b h7).1).elim (fun h => h.elim) fun h => h
    · exact ((h2.cells id el l h6).1).elim (fun h => h.elim) fun h => h
    · exact ((h2.grow id α el e enc L h6).1 b h7).elim (fun h => h.elim) fun h => h
  have le1 : (ctxOf E s.H s.nx σ τ w).Le (ctxOf E (H1 ++ s.H) nx1 σ2 τ2 w1) := by
    refine ⟨fun b o hk hc => (hbel.block b hk.2.1).trans hc, fun b hk => ⟨hk.1, Nat.lt_of_lt_of_le hk.2.1 hbel.size, fun id ho => ?_⟩, fun id off v hv => ⟨Nat.lt_of_lt_of_le hv.1 hnx, by rw [σlo id hv.1]; exact hv.2⟩, fun id v hv => ⟨Nat.lt_of_lt_of_le hv.1 hnx, by rw [τlo id hv.1]; exact hv.2⟩,
      fun id off v hv => ⟨Nat.lt_of_lt_of_le hv.1 hnx, by rw [τlo id hv.1]; exact hv.2⟩⟩
    rcases hown id b ho with ⟨_, h6⟩ | ⟨_, h6⟩
    · have := hnew id b h6; have := hk.2.1; omega
    · exact hk.2.2 id h6
  have le2 : ((ctxOf (freshEnv E s σ τ w n) H1 nx1 σ1 τ1 w1).ge s.nx).Le (ctxOf E (H1 ++ s.H) nx1 σ2 τ2 w1) := by
    refine ⟨fun _ _ _ h => h, fun b hk => ⟨?_, hk.2.1, fun id ho => ?_⟩, fun id off v hv => ⟨hv.2.1, by rw [σhi id hv.1]; exact hv.2.2⟩, fun id v hv => ⟨hv.2.1, by rw [τhi id hv.1]; exact hv.2.2⟩, fun id off v hv => ⟨hv.2.1, by rw [τhi id hv.1]; exact hv.2.2⟩⟩
    · rcases hk.1 with h6 | h6 | h6
      · exact h6.1
      · exact h6.elim
      · exact .inr (.inr (Nat.le_trans hs.heap.kept.size h6))
    · rcases hown id b ho with ⟨_, h6⟩ | ⟨_, h6⟩
      · exact hk.2.2 id h6
      · rcases hk.1 with h7 | h7 | h7
        · exact h7.2.2 id h6
        · exact h7.elim
        · have := owned_lt hs.heap h6
          have h7 : w.heap.size ≤ b := h7
          omega
  refine ⟨hbel.toBelow, σ2, τ2, ⟨⟨hs.heap.kept.below hbel, hs.heap.few, fun id el l h6 => ?_, fun id α el e enc L h6 => ?_, fun i j b h6 h7 => ?_, fun id o h6 => ?_, fun id => ?_, fun id o h6 => by
    rcases hget id _ h6 with ⟨h8, h9, h10⟩ | ⟨h8, h10⟩
    · obtain ⟨h11, h12⟩ := h2.obj id o h10
      rw [σhi id h8]
      exact ⟨fun k hk => ⟨.inr (Nat.le_trans hs.heap.kept.size ((h11 k hk).1.elim (fun h => h.elim) fun h => h)), (h11 k hk).2⟩, OA.at_mono h12 (fun _ _ => rfl) (Nat.le_refl _) le2.still⟩
    · obtain ⟨h11, h12⟩ := hs.heap.obj id o h10
      rw [σlo id h8]
      exact ⟨fun k hk => ⟨(h11 k hk).1, Nat.lt_of_lt_of_le (h11 k hk).2 hbel.size⟩, OA.at_mono h12 (fun k hk => hbel.block k (h11 k hk).2) hbel.size le1.still⟩⟩, hs.defers, hs.size, fun i d hd => (hs.slots i d hd).mono le1, hs.ghost_le (s' := ⟨s.F, H1 ++ s.H, nx1, s.G⟩) rfl le1, Nat.le_trans hs.room hnx⟩,
    fun d v hd hr => (ge_rep 6 _ _ _ hd hr).mono le2⟩
  · rcases hget id _ h6 with ⟨h8, h9, h10⟩ | ⟨h8, h10⟩
    · obtain ⟨h11, c1, h12, h13, h14⟩ := h2.cells id el l h10
      rw [σhi id h8]
      refine ⟨.inr (Nat.le_trans hs.heap.kept.size (h11.elim (fun h => h.elim) fun h => h)), c1, h12, h13, fun j d u hd hu => (ge_rep 6 _ _ _ ?_ (h14 j d u hd hu)).mono le2⟩
      simp only [loGe] at h9
      exact all_at h9 hd
    · obtain ⟨h11, c1, h12, h13, h14⟩ := hs.heap.cells id el l h10
      rw [σlo id h8]
      exact ⟨h11, c1, (hbel.block _ (Array.getElem?_eq_some_iff.1 h12).1).trans h12, h13, fun j d u hd hu => (h14 j d u hd hu).mono le1⟩
  · rcases hget id _ h6 with ⟨h8, h9, h10⟩ | ⟨h8, h10⟩
    · obtain ⟨h11, xs, h12, h13, h14⟩ := h2.grow id α el e enc L h10
      rw [τhi id h8]
      exact ⟨fun g hg => .inr (Nat.le_trans hs.heap.kept.size ((h11 g hg).elim (fun h => h.elim) fun h => h)), xs, h12, h13, fun i x j d u hx hd hu => (h14 i x j d u hx hd hu).mono (le2.still)⟩
    · obtain ⟨h11, xs, h12, h13, h14⟩ := hs.heap.grow id α el e enc L h10
      rw [τlo id h8]
      exact ⟨h11, xs, own_below h12 hbel.toBelow, h13, fun i x j d u hx hd hu => (h14 i x j d u hx hd hu).mono le1.still⟩
  · rcases hown i b h6 with ⟨h8, h9⟩ | ⟨h8, h9⟩ <;> rcases hown j b h7 with ⟨h10, h11⟩ | ⟨h10, h11⟩
    · exact h2.apart i j b h9 h11
    · have := hnew i b h9; have := owned_lt hs.heap h11; omega
    · have := hnew j b h11; have := owned_lt hs.heap h9; omega
    · exact hs.heap.apart i j b h9 h11
  · rcases hget id _ h6 with ⟨_, _, h10⟩ | ⟨h8, _⟩
    · exact h2.below id o h10
    · exact Nat.lt_of_lt_of_le h8 hnx
  · by_cases hid : id < s.nx
    · rw [τlo id hid]; exact hs.heap.slices id
    · rw [τhi id (by omega)]; exact h2.slices id

end
end Go.Proofs.Ytfepckbhnghpeaa.V
namespace Go.Proofs.Ytfepckbhnghpeaa.V
open Go.RowKit
section
variable {P : Program} {tt : TT} {pl : Plans} {s : St} {K : D → St → Prop} {f : FuncId} {args : List D}

theorem CallVC.to {m : Nat} (htt : ttOk P tt) (hb : entersAll P = true) (hm : P.follows .mixedOrders = true) {fn : Func} {c : Code} (hfn : P.funcs[f]? = some fn) (hc : fn.body = some c) (hok : codeOk pl fn.ntmps c = true) (hn : args.length ≤ fn.ntmps) (h0 : 0 < fn.ntmps)
    (hG : Nat.ble s.G.2 m = true) (hmx : Nat.ble m s.nx = true) (hF : s.F.all (fun p => cutOk 6 m p.2) = true)
    (h : wpc P tt pl c ⟨enumD args 0, s.H, s.nx, (upto m 0, m)⟩ fun e s' => endK e (resK tt s' fn.results.toList fun l => seeD (oneD l) fun d => ∃ r z d' H' n', Cover r z ⟨(0, d) :: s'.F, s'.H, s'.nx, s'.G⟩ ⟨[(0, d')], H', n', (upto m 0, m)⟩ ∧ K d' ⟨s.F, H', n', s.G⟩)) : CallVC P false f args s K := by
  have hG := Nat.le_of_ble_eq_true hG
  have hmx := Nat.le_of_ble_eq_true hmx
  refine ⟨⟨fn, hfn, by rw [hc]; rfl⟩, fun E σ τ a w args' hs hr => ?_⟩
  let X' : List Nat × Nat → D → Value → Prop := fun G d v => E.X G d v ∨ (G = (upto m 0, m) ∧ (d = .junk ∨ ∃ i, lget s.F i = some d ∧ v = a.tmps.getD i undef))
  let E' : Env := ⟨E.w, E.B, E.K, fn.ntmps, X'⟩
  have hheap : HR E' s.H s.nx σ τ w := ⟨⟨hs.heap.kept.os, hs.heap.kept.tape, hs.heap.kept.output, hs.heap.kept.size, hs.heap.kept.block, hs.heap.kept.drawn⟩, hs.heap.few, hs.heap.cells, hs.heap.grow, hs.heap.apart, hs.heap.below, hs.heap.slices, hs.heap.obj⟩
  have hlen : args'.length ≤ fn.ntmps := by rw [hr.1]; exact hn
  have hget : ∀ (l : List (Nat × D)), l.all (fun p => cutOk 6 m p.2) = true → ∀ i d, lget l i = some d → cutOk 6 m d = true := by
    intro l
    induction l with
    | nil => intro _ i d h; cases h
    | cons p l ih =>
      intro hl i d h
      obtain ⟨k, x⟩ := p
      simp only [List.all_cons, Bool.and_eq_true] at hl
      rw [lget] at h
      split at h
      · injection h with h; subst h; exact hl.1
      · exact ih hl.2 i d h
  have hs' : SR E' ⟨enumD args 0, s.H, s.nx, (upto m 0, m)⟩ σ τ { tmps := args'.toArray ++ Array.replicate (fn.ntmps - args'.toArray.size) undef, defers := [] } w := by
    refine ⟨hheap, rfl, by simp [E']; omega, fun i d hd => enter_slots hr fn.ntmps i d hd, fun G d v hx => ?_, hmx⟩
    rcases hx with hx | ⟨rfl, rfl | ⟨i, hi, rfl⟩⟩
    · obtain ⟨g1, g2, g3⟩ := hs.ghost G d v hx
      refine ⟨fun id h1 h2 => ?_, Nat.le_trans g2 hG, g3⟩
      have h3 := (g1 id h1 h2).1
      exact ⟨Nat.lt_of_lt_of_le h3 hG, (upto_mem _ _ _).2 ⟨Nat.zero_le _, by omega⟩⟩
    · exact ⟨fun id h1 h2 => ⟨h1, h2⟩, Nat.le_refl _, .junk⟩
    · refine ⟨fun id h1 h2 => ⟨h1, h2⟩, Nat.le_refl _, (cut_rep 6 d _ _ (hget _ hF i d hi) (hs.slots i d hi)).mono ⟨fun _ _ _ h => h, fun _ h => h, fun id off v hv => hv, fun id v hv => ⟨⟨hv.1, (upto_mem _ _ _).2 ⟨Nat.zero_le _, by have := hv.1; omega⟩⟩, hv.2⟩, fun id off v hv => ⟨⟨hv.1, (upto_mem _ _ _).2 ⟨Nat.zero_le _, by have := hv.1; omega⟩⟩, hv.2⟩⟩⟩
  refine calls_of_wp hfn hc (wp_mono (wpc_sound (E := E') htt hb hm c hok _ _ _ _ _ w h hs') fun e a1 w1 hh => ?_)
  obtain ⟨x, s1, σ1, τ1, rfl, h1, h2⟩ := hh
  have fin : resK tt s1 fn.results.toList (fun l => seeD (oneD l) fun d => ∃ r z d' H' n', Cover r z ⟨(0, d) :: s1.F, s1.H, s1.nx, s1.G⟩ ⟨[(0, d')], H', n', (upto m 0, m)⟩ ∧ K d' ⟨s.F, H', n', s.G⟩) →
      a1.defers = [] ∧ ∃ v, (results fn a1.tmps).run P w1 = .ok v w1 ∧ ∃ d s' σ' τ' u, K d s' ∧ Ending.returned v = .returned u ∧ SR E s' σ' τ' a w1 ∧ Rep (ctxOf E s'.H s'.nx σ' τ' w1) d u ∧ (false = true → Below w.heap.size w w1) := by
    intro hres
    obtain ⟨l, vs, h3, h4, h5⟩ := resK_run htt h2 _ _ hres
    rw [seeD_eq] at h3
    obtain ⟨r, z, d', H', n', hcov, hk⟩ := h3
    have hput := put_state h2 (oneD_rep h4) (dst := some 0) (fun i hi => by injection hi with hi; subst hi; exact h0)
    have hcv := cover_state hcov hput
    have hd0 := hcv.slots 0 d' (lget_same 0 d' [])
    have hval : (a1.put (some 0) (oneV vs)).tmps.getD 0 undef = oneV vs := by
      have hsz : 0 < a1.tmps.size := by rw [h2.size]; exact h0
      simp [Act.put, Array.getD_eq_getD_getElem?, hsz]
    rw [hval] at hd0
    refine ⟨h2.defers, _, results_at h5, _, _, _, _, _, hk, rfl, ⟨⟨⟨hcv.heap.kept.os, hcv.heap.kept.tape, hcv.heap.kept.output, hcv.heap.kept.size, hcv.heap.kept.block, hcv.heap.kept.drawn⟩, hcv.heap.few, hcv.heap.cells, hcv.heap.grow, hcv.heap.apart, hcv.heap.below, hcv.heap.slices, hcv.heap.obj⟩, hs.defers, hs.size, fun i d hd => ?_, fun G d v hx => ?_, ?_⟩, hd0, fun h => by cases h⟩
    · exact (hcv.ghost _ _ _ (.inr ⟨rfl, .inr ⟨i, hd, rfl⟩⟩)).2.2.mono (Ctx.only_le _ _)
    · obtain ⟨g1, g2, _⟩ := hs.ghost G d v hx
      exact ⟨g1, g2, (hcv.ghost G d v (.inl hx)).2.2⟩
    · show s.G.2 ≤ n'
      have hr' : m ≤ n' := hcv.room
      omega
  cases x with
  | normal => exact fin h1
  | ret => exact fin h1
  | exit i => exact h1.elim
end
end Go.Proofs.Ytfepckbhnghpeaa.V
namespace Go.Proofs.Ytfepckbhnghpeaa.V
open Go.RowKit

structure Turned (b : Nat) (w w' : World) : Prop where
  os : w'.os = w.os
  tape : w'.tape = w.tape
  output : w'.output = w.output
  size : w.heap.size ≤ w'.heap.size
  block : ∀ k, k < w.heap.size → k ≠ b → w'.heap[k]? = w.heap[k]?
  drawn : w.drawn ≤ w'.drawn

def newB (B : Nat → Prop) (w w' : World) : Nat → Prop := fun b => B b ∨ (w.heap.size ≤ b ∧ b < w'.heap.size)

def Ob (P : Program) (f : FuncId) (el : TypeId) (X rest : List D) (Q : D → List D → Prop) : Prop :=
  hasBody P f ∧ ∀ (w : World) (B : Nat → Prop) (b : Nat) (c : Array Value) (args' : List Value), (∀ k, B k → k < w.heap.size ∧ k ≠ b) → w.heap[b]? = some (.cells c el (0, 0)) → reps (baseCtx w B) X c.toList → reps (baseCtx w B) rest args' →
    Calls P f (Value.pointer (some ⟨b, 0, none⟩) :: args').toArray w fun e w' => ∃ d v X' c', Q d X' ∧ e = .returned v ∧ Turned b w w' ∧ w'.heap[b]? = some (.cells c' el (0, 0)) ∧ reps (baseCtx w' (newB B w w')) X' c'.toList ∧ Rep (baseCtx w' (newB B w w')) d v

theorem Ob.mono {P : Program} {f : FuncId} {el : TypeId} {X rest : List D} {Q Q' : D → List D → Prop} (h : Ob P f el X rest Q) (hq : ∀ d X', Q d X' → Q' d X') : Ob P f el X rest Q' :=
  ⟨h.1, fun w B b c args' h1 h2 h3 h4 => (h.2 w B b c args' h1 h2 h3 h4).mono fun _ _ ⟨d, v, X', c', h5, h6⟩ => ⟨d, v, X', c', hq d X' h5, h6⟩⟩

section
variable {P : Program} {tt : TT} {pl : Plans} {s : St} {K : D → St → Prop} {f : FuncId}

def elder (w w1 : World) : World := { w1 with heap := w1.heap.extract 0 w.heap.size }

theorem CallVC.ob {el : TypeId} {X rest : List D} {Q : D → List D → Prop} {i : Nat} (hf : Ob P f el X rest Q) (hid : lget s.H i = some (.cells el X)) (hX : X.all (cutOk 6 0) = true) (hcut : rest.all (cutOk 6 0) = true)
    (h : ∀ d X', Q d X' → K d ⟨s.F, (i, .cells el X') :: s.H, s.nx, s.G⟩) : CallVC P false f (.loc i 0 :: rest) s K := by
  refine ⟨hf.1, fun E σ τ a w args0 hs hr => ?_⟩
  obtain ⟨_, c, hblk, hcs, hcr⟩ := hs.heap.cells i el X hid
  have hown : owned s.H σ τ i (σ i) := .inl ⟨_, _, hid, rfl⟩
  have hbase : ∀ d v, cutOk 6 0 d = true → Rep (ctxOf E s.H s.nx σ τ w) d v → Rep (baseCtx w (ctxOf E s.H s.nx σ τ w).ok) d v := fun d v hd hv =>
    (cut_rep 6 d _ v hd hv).mono ⟨fun _ _ _ h => h, fun _ h => h, fun _ _ _ h => absurd h.1 (Nat.not_lt_zero _), fun _ _ h => absurd h.1 (Nat.not_lt_zero _), fun _ _ _ h => absurd h.1 (Nat.not_lt_zero _)⟩
  match args0, hr with
  | [], hr => have := hr.1; simp at this
  | v0 :: args', hr =>
  have hv0 : v0 = .pointer (some ⟨σ i, 0, none⟩) := by
    have := hr.2 0 (.loc i 0) v0 rfl rfl
    cases this with
    | loc hh => exact hh.2
  subst hv0
  refine (hf.2 w (ctxOf E s.H s.nx σ τ w).ok (σ i) c args' (fun k hk => ⟨hk.2.1, fun he => hk.2.2 i (he ▸ hown)⟩) hblk ⟨by simpa using hcs, fun j d u hd hu => hbase d u (all_at hX hd) (hcr j d u hd (by simpa using hu))⟩
    ⟨by have := hr.1; simpa using this, fun j d u hd hu => hbase d u (all_at hcut hd) (hr.2 (j + 1) d u (by simpa using hd) (by simpa using hu))⟩).mono fun e w' hh => ?_
  obtain ⟨d, v, X', c', hq, rfl, ht, hblk', hX', hd⟩ := hh
  have hlt : σ i < w.heap.size := (Array.getElem?_eq_some_iff.1 hblk).1
  have hlt' : σ i < w'.heap.size := Nat.lt_of_lt_of_le hlt ht.size
  let w1 : World := { w' with heap := w'.heap.set (σ i) (.cells c el (0, 0)) hlt' }
  have hw1 : ∀ k, k ≠ σ i → w'.heap[k]? = w1.heap[k]? := fun k hk => by
    show _ = (w'.heap.set (σ i) _ hlt')[k]?
    rw [Array.getElem?_set]
    rw [if_neg (fun h => hk h.symm)]
  have hwi : w1.heap[σ i]? = some (.cells c el (0, 0)) := by
    show (w'.heap.set (σ i) _ hlt')[σ i]? = _
    rw [Array.getElem?_set]
    rw [if_pos rfl]
  have hsz1 : w'.heap.size = w1.heap.size := by show _ = (w'.heap.set (σ i) _ hlt').size; simp
  have hbel : Under w.heap.size w w1 := ⟨⟨ht.os, ht.tape, ht.output, by rw [← hsz1]; exact ht.size, fun k hk => by
    by_cases hki : k = σ i
    · subst hki; rw [hwi, hblk]
    · rw [← hw1 k hki]; exact ht.block k hk hki⟩, ht.drawn⟩
  have hs1 := below_state hs hbel
  have hle : (baseCtx w' (newB (ctxOf E s.H s.nx σ τ w).ok w w')).Le (ctxOf E s.H s.nx σ τ w1) := by
    have hok : ∀ k, newB (ctxOf E s.H s.nx σ τ w).ok w w' k → (ctxOf E s.H s.nx σ τ w1).ok k := by
      intro k hk
      rcases hk with hk | ⟨h1, h2⟩
      · exact ⟨hk.1, Nat.lt_of_lt_of_le hk.2.1 hbel.size, hk.2.2⟩
      · exact ⟨.inr (.inr (Nat.le_trans hs.heap.kept.size h1)), by show k < w1.heap.size; rw [← hsz1]; exact h2, fun id ho => absurd (owned_lt hs.heap ho) (by omega)⟩
    refine ⟨fun k o hk hc => ?_, hok, fun _ _ _ h => h.elim, fun _ _ h => h.elim, fun _ _ _ h => h.elim⟩
    have hne : k ≠ σ i := fun he => (hok k hk).2.2 i (he ▸ hown)
    exact (hw1 k hne).symm.trans hc
  obtain ⟨hs2, hle2⟩ := store_state hs1 hid hblk' (Nat.le_refl _) rfl rfl rfl hsz1 (fun k hk => hw1 k hk) ⟨hX'.1, fun j d u hd hu => (hX'.2 j d u hd hu).mono hle⟩
  exact ⟨d, _, σ, τ, v, h d X' hq, rfl, hs2, (hd.mono hle).mono hle2, fun h => by cases h⟩
end
end Go.Proofs.Ytfepckbhnghpeaa.V
namespace Go.Proofs.Ytfepckbhnghpeaa.V
open Go.RowKit

def FnN (P : Program) (f : FuncId) (args : List D) (Q : D → Prop) : Prop :=
  hasBody P f ∧ ∀ (w : World) (B : Nat → Prop) (args' : List Value), (∀ b, B b → b < w.heap.size) → reps (baseCtx w B) args args' →
    Calls P f args'.toArray w fun e w' => ∃ d v, Q d ∧ e = .returned v ∧ Under w.heap.size w w' ∧ Rep (baseCtx w' fun b => w.heap.size ≤ b ∧ b < w'.heap.size) d v

theorem FnN.mono {P : Program} {f : FuncId} {args : List D} {Q Q' : D → Prop} (h : FnN P f args Q) (hq : ∀ d, Q d → Q' d) : FnN P f args Q' :=
  ⟨h.1, fun w B args' hB hr => (h.2 w B args' hB hr).mono fun _ _ ⟨d, v, h1, h2⟩ => ⟨d, v, hq d h1, h2⟩⟩
theorem FnN.exact {P : Program} {f : FuncId} {args : List D} {d0 : D} (h : FnN P f args fun d => DLe d d0) : FnN P f args fun d => d = d0 :=
  ⟨h.1, fun w B args' hB hr => (h.2 w B args' hB hr).mono fun _ _ ⟨_, v, h1, h2, h3, h4⟩ => ⟨d0, v, rfl, h2, h3, h1 _ _ h4⟩⟩
theorem FnN.fn {P : Program} {f : FuncId} {args : List D} {Q : D → Prop} (h : FnN P f args Q) : Fn P f args Q :=
  ⟨h.1, fun w B args' hB hr => (h.2 w B args' hB hr).mono fun _ _ ⟨d, v, h1, h2, h3, h4⟩ => ⟨d, v, h1, h2, h3, h4.mono ⟨fun _ _ _ h => h, fun _ hb => .inr hb, fun _ _ _ h => h, fun _ _ h => h, fun _ _ _ h => h⟩⟩⟩
def newAns (s : St) (d : D) (Q : D → Prop) : Prop := match d with
  | .grow id => match lget s.H id with
    | some (.grow α _ e enc L) => (∀ x, (enc x).all (flatD 1) = true) ∧ Q (.rows α e enc L)
    | _ => False
  | d => flatD 4 d = true ∧ Q d

section
variable {P : Program} {tt : TT} {pl : Plans} {E : Env} {s : St} {σ : Nat → Nat} {τ : Nat → Value} {a : Act} {w : World} {K : D → St → Prop} {f : FuncId} {args : List D}

theorem own_rows (hs : HR E s.H s.nx σ τ w) {id : Nat} {α : Type} {el e : Nat} {enc : α → List D} {L : List α} (h : lget s.H id = some (.grow α el e enc L)) (hfl : ∀ x, (enc x).all (flatD 1) = true) (B : Nat → Prop) (hB : ∀ b, E.mine b → b < w.heap.size → B b) :
    Rep (baseCtx w B) (.rows α e enc L) (τ id) := by
  obtain ⟨h1, xs, ⟨hxl, hown⟩, hlen, hrep⟩ := hs.grow id α el e enc L h
  rcases hown with ⟨hv, hn⟩ | ⟨g, cap, cur, hv, _, hg, hcap, hmax, hcs, htk⟩
  · have : L = [] := List.eq_nil_of_length_eq_zero hn
    subst this
    rw [hv]
    exact DLe.nil e enc _ _ .v
  · rw [hv]
    have hgl : g < w.heap.size := (Array.getElem?_eq_some_iff.1 hg).1
    have hbound : ∀ (i j : Nat), i < L.length → j < e → i * e + j < L.length * e := fun i j hi hj => by
      have := Nat.mul_le_mul_right e (show i + 1 ≤ L.length from hi)
      rw [Nat.succ_mul] at this
      omega
    have hcl : L.length * e ≤ cur.size := by rw [hcs]; exact Nat.mul_le_mul_right e hcap
    have hxj : ∀ (j : Nat), j < L.length * e → xs[j]? = cur[j]? := fun j hj => by
      have h7 : cur.toList[j]? = xs[j]? := by rw [← htk, List.getElem?_take, if_pos hj]
      rw [← h7, Array.getElem?_toList]
    refine Rep.rows (C := baseCtx w B) (α := α) (e := e) (enc := enc) (L := L) g 0 (fun i j => (cur[i * e + j]?).getD undef) hcap (fun _ => ⟨rfl, hB g (h1 g (by rw [hv]; rfl)) hgl⟩) hlen (fun i x j d hx hd => ?_) (fun i x j d hx hd => ?_)
    all_goals
      have hi : i < L.length := (List.getElem?_eq_some_iff.1 hx).1
      have hj : j < e := by have := (List.getElem?_eq_some_iff.1 hd).1; rw [hlen i x hx] at this; exact this
      have hb := hbound i j hi hj
      obtain ⟨u, hcj⟩ : ∃ u, cur[i * e + j]? = some u := ⟨_, Array.getElem?_eq_getElem (by omega)⟩
    · show w.cell? ⟨g, 0 + i * e + j, none⟩ = some ((cur[i * e + j]?).getD undef)
      rw [hcj, Nat.zero_add]
      unfold World.cell?
      simp [hg, hcj]
    · rw [hcj]
      exact flat_rep 1 d _ (all_at (hfl x) hd) (hrep i x j d u hx hd (by rw [hxj _ hb, hcj]))

theorem fnN_of_wpc (htt : ttOk P tt) (hb : entersAll P = true) (hm : P.follows .mixedOrders = true) {fn : Func} {c : Code} (hfn : P.funcs[f]? = some fn) (hc : fn.body = some c) (hok : codeOk pl fn.ntmps c = true) {Q : D → Prop}
    (hn : args.length ≤ fn.ntmps) (h : wpc P tt pl c ⟨enumD args 0, [], 0, ([], 0)⟩ fun e s => endK e (resK tt s fn.results.toList fun l => seeD (oneD l) fun d => newAns s d Q)) : FnN P f args Q := by
  refine ⟨⟨fn, hfn, by rw [hc]; rfl⟩, fun w B args' hB hr => ?_⟩
  have hr0 := hr
  let E : Env := ⟨w, B, fun _ => False, fn.ntmps, fun _ _ _ => False⟩
  have hle : (baseCtx w B).Le (ctxOf E [] 0 (fun _ => 0) (fun _ => .slice none 0 0) w) :=
    ⟨fun _ _ _ h => h, (fun b hb => ⟨.inl hb, hB b hb, fun id ho => by rcases ho with ⟨_, _, h, _⟩ | ⟨_, _, _, _, _, h, _⟩ | ⟨_, h, _⟩ <;> cases h⟩), fun _ _ _ h => h.elim, fun _ _ h => h.elim, fun _ _ _ h => h.elim⟩
  have hlen : args'.length ≤ fn.ntmps := by rw [hr.1]; exact hn
  have hs : SR E ⟨enumD args 0, [], 0, ([], 0)⟩ (fun _ => 0) (fun _ => .slice none 0 0) { tmps := args'.toArray ++ Array.replicate (fn.ntmps - args'.toArray.size) undef, defers := [] } w :=
    ⟨⟨⟨rfl, rfl, rfl, Nat.le_refl _, fun _ _ _ => rfl, Nat.le_refl _⟩, fun b hb => ⟨fun h => h, hB b hb⟩, (fun id el l h => by cases h), (fun id α el e enc L h => by cases h), (fun i j b h => by rcases h with ⟨_, _, h, _⟩ | ⟨_, _, _, _, _, h, _⟩ | ⟨_, h, _⟩ <;> cases h), (fun id o h => by cases h), fun _ => ⟨_, _, _, rfl⟩, fun id o h => by cases h⟩,
      rfl, by simp [E]; omega, fun i d hd => (enter_slots hr0 fn.ntmps i d hd).mono hle, fun _ _ _ h => h.elim, Nat.le_refl _⟩
  refine calls_of_wp hfn hc (wp_mono (wpc_sound (E := E) htt hb hm c hok _ _ _ _ _ w h hs) fun e a1 w1 hh => ?_)
  obtain ⟨x, s1, σ1, τ1, rfl, h1, h2⟩ := hh
  have fin : resK tt s1 fn.results.toList (fun l => seeD (oneD l) fun d => newAns s1 d Q) → a1.defers = [] ∧ ∃ v, (results fn a1.tmps).run P w1 = .ok v w1 ∧ ∃ d u, Q d ∧ Ending.returned v = .returned u ∧ Under w.heap.size w w1 ∧ Rep (baseCtx w1 fun b => w.heap.size ≤ b ∧ b < w1.heap.size) d u := by
    intro hres
    obtain ⟨l, vs, h3, h4, h5⟩ := resK_run htt h2 _ _ hres
    rw [seeD_eq] at h3
    have hbel : Under w.heap.size w w1 := ⟨⟨h2.heap.kept.os, h2.heap.kept.tape, h2.heap.kept.output, h2.heap.kept.size, fun k hk => h2.heap.kept.block k hk (fun h => h)⟩, h2.heap.kept.drawn⟩
    have hone := oneD_rep h4
    generalize oneD l = d at *
    unfold newAns at h3
    split at h3
    · rename_i id
      split at h3
      · rename_i α el e enc L hg
        obtain ⟨hfl, hq⟩ := h3
        have hv : oneV vs = τ1 id := by
          cases hone with
          | grow hh => exact hh.2
        refine ⟨h2.defers, _, results_at h5, _, _, hq, rfl, hbel, ?_⟩
        rw [hv]
        exact own_rows (s := s1) h2.heap hg hfl _ fun b hb hbw => ⟨hb.elim (fun h => h.elim) (fun h => h), hbw⟩
      · exact h3.elim
    · exact ⟨h2.defers, _, results_at h5, _, _, h3.2, rfl, hbel, flat_rep 4 _ _ h3.1 hone⟩
  cases x with
  | normal => exact fin h1
  | ret => exact fin h1
  | exit i => exact h1.elim

theorem CallVC.look {g : Bool} {Q : D → Prop} {args0 : List D} (hf : FnN P f args0 Q) (he : args.map (snapD 6 s.H) = args0) (h : ∀ d, Q d → K d s) : CallVC P g f args s K := by
  subst he
  refine ⟨hf.1, fun E σ τ a w args' hs hr => ?_⟩
  have hr' : reps (baseCtx w fun b => ((E.B b ∨ E.K b) ∨ E.w.heap.size ≤ b) ∧ b < w.heap.size) (args.map (snapD 6 s.H)) args' := by
    refine ⟨by simp [hr.1], fun j d u hd hu => ?_⟩
    rw [List.getElem?_map] at hd
    cases hq : args[j]? with
    | none => rw [hq] at hd; cases hd
    | some x =>
      rw [hq] at hd
      simp only [Option.map_some, Option.some.injEq] at hd
      subst hd
      exact snap_rep hs.heap 6 x u (hr.2 j x u hq hu)
  refine (hf.2 w _ args' (fun b hb => hb.2) hr').mono fun e w' hh => ?_
  obtain ⟨d, v, h1, rfl, h3, h4⟩ := hh
  refine ⟨d, s, σ, τ, v, h d h1, rfl, below_state hs h3, h4.mono ⟨fun _ _ _ h => h, fun b hb => ?_, fun _ _ _ h => h.elim, fun _ _ h => h.elim, fun _ _ _ h => h.elim⟩, fun _ => h3.toBelow⟩
  exact ⟨.inr (.inr (Nat.le_trans hs.heap.kept.size hb.1)), hb.2, fun id ho => absurd (owned_lt hs.heap ho) (by have := hb.1; omega)⟩
end
end Go.Proofs.Ytfepckbhnghpeaa.V
namespace Go.Proofs.Ytfepckbhnghpeaa.V
open Go.RowKit

/-! ### A part of the objects -/
section
variable {P : Program} {tt : TT} {pl : Plans} {s : St} {K : D → St → Prop} {f : FuncId} {args : List D} {E : Env} {H : List (Nat × LO)} {nx : Nat} {σ : Nat → Nat} {τ : Nat → Value} {w : World}

/-! ### Clusters -/
structure TurnedS (S : Nat → Prop) (w w' : World) : Prop where
  os : w'.os = w.os
  tape : w'.tape = w.tape
  output : w'.output = w.output
  size : w.heap.size ≤ w'.heap.size
  block : ∀ k, k < w.heap.size → ¬ S k → w'.heap[k]? = w.heap[k]?
  drawn : w.drawn ≤ w'.drawn
def newS (B S S' : Nat → Prop) (w w' : World) : Nat → Prop := fun k => ((B k ∨ S k) ∨ w.heap.size ≤ k) ∧ k < w'.heap.size ∧ ¬ S' k

def ObS (P : Program) (f : FuncId) (A : SepA) (rest : List D) (Q : D → SepA → Prop) : Prop :=
  hasBody P f ∧ ∀ (w : World) (B : Nat → Prop) (b : Nat) (S : Nat → Prop) (args' : List Value), (∀ k, B k → k < w.heap.size ∧ ¬ S k) → (∀ k, S k → k < w.heap.size) → A.R (baseCtx w B) b S → reps (baseCtx w B) rest args' →
    Calls P f (.pointer (some ⟨b, 0, none⟩) :: args').toArray w fun e w' => ∃ d v A' S', Q d A' ∧ e = .returned v ∧ TurnedS S w w' ∧ (∀ k, S' k → (S k ∨ w.heap.size ≤ k) ∧ k < w'.heap.size) ∧ A'.R (baseCtx w' (newS B S S' w w')) b S' ∧ Rep (baseCtx w' (newS B S S' w w')) d v
theorem ObS.mono {P : Program} {f : FuncId} {A : SepA} {rest : List D} {Q Q' : D → SepA → Prop} (h : ObS P f A rest Q) (hq : ∀ d A', Q d A' → Q' d A') : ObS P f A rest Q' :=
  ⟨h.1, fun w B b S args' h1 h2 h3 h4 => (h.2 w B b S args' h1 h2 h3 h4).mono fun _ _ ⟨d, v, A', S', q1, q2⟩ => ⟨d, v, A', S', hq _ _ q1, q2⟩⟩

/-! ### New clusters -/
def NewS (P : Program) (f : FuncId) (args : List D) (Q : SepA → Prop) : Prop :=
  hasBody P f ∧ ∀ (w : World) (B : Nat → Prop) (args' : List Value), (∀ b, B b → b < w.heap.size) → reps (baseCtx w B) args args' →
    Calls P f args'.toArray w fun e w' => ∃ b A S, Q A ∧ e = .returned (.pointer (some ⟨b, 0, none⟩)) ∧ Under w.heap.size w w' ∧ (∀ k, S k → w.heap.size ≤ k ∧ k < w'.heap.size) ∧ A.R (baseCtx w' fun k => (B k ∨ w.heap.size ≤ k) ∧ k < w'.heap.size ∧ ¬ S k) b S
theorem NewS.mono {args : List D} {Q Q' : SepA → Prop} (h : NewS P f args Q) (hq : ∀ A, Q A → Q' A) : NewS P f args Q' :=
  ⟨h.1, fun w B args' h1 h2 => (h.2 w B args' h1 h2).mono fun _ _ ⟨b, A, S, q1, q2⟩ => ⟨b, A, S, hq _ q1, q2⟩⟩

theorem CallVC.news {g : Bool} {Q : SepA → Prop} (hf : NewS P f args Q) (hcut : args.all (cutOk 6 0) = true) (h : ∀ A S, Q A → K (.loc s.nx 0) ⟨s.F, (s.nx, .obj (.sep S A)) :: s.H, s.nx + 1, s.G⟩) : CallVC P g f args s K := by
  refine ⟨hf.1, fun E σ τ a w args' hs hr => ?_⟩
  have hr' : reps (baseCtx w (ctxOf E s.H s.nx σ τ w).ok) args args' := ⟨hr.1, fun j d u hd hu => (cut_rep 6 d _ u (all_at hcut hd) (hr.2 j d u hd hu)).mono ⟨fun _ _ _ h => h, fun _ h => h, fun _ _ _ h => absurd h.1 (Nat.not_lt_zero _), fun _ _ h => absurd h.1 (Nat.not_lt_zero _), fun _ _ _ h => absurd h.1 (Nat.not_lt_zero _)⟩⟩
  refine (hf.2 w _ args' (fun b hb => hb.2.1) hr').mono fun e w' hh => ?_
  obtain ⟨b, A, S, hq, rfl, hu, hS, hR⟩ := hh
  have howned : ∀ id k, owned ((s.nx, .obj (.sep S A)) :: s.H) (setN σ s.nx b) τ id k → (id = s.nx ∧ S k) ∨ (id ≠ s.nx ∧ owned s.H σ τ id k) := by
    intro id k ho
    by_cases hi : id = s.nx
    · subst hi
      rcases ho with ⟨_, _, h1, _⟩ | ⟨_, _, _, _, _, h1, _⟩ | ⟨o, h1, h2⟩
      · rw [lget_same] at h1; cases h1
      · rw [lget_same] at h1; cases h1
      · rw [lget_same] at h1
        injection h1 with h1; injection h1 with h1; subst h1
        exact .inl ⟨rfl, h2⟩
    · refine .inr ⟨hi, ?_⟩
      have e0 : setN σ s.nx b id = σ id := by simp [setN, hi]
      rcases ho with ⟨_, _, h1, h2⟩ | ⟨_, _, _, _, _, h1, h2⟩ | ⟨o, h1, h2⟩
      · rw [lget_ne _ _ hi] at h1; rw [e0] at h2; exact .inl ⟨_, _, h1, h2⟩
      · rw [lget_ne _ _ hi] at h1; exact .inr (.inl ⟨_, _, _, _, _, h1, h2⟩)
      · rw [lget_ne _ _ hi] at h1; rw [e0] at h2; exact .inr (.inr ⟨_, h1, h2⟩)
  have hle : (ctxOf E s.H s.nx σ τ w).Le (ctxOf E ((s.nx, .obj (.sep S A)) :: s.H) (s.nx + 1) (setN σ s.nx b) τ w') := by
    refine ⟨fun k o hk ho => (hu.block k hk.2.1).trans ho, fun k hk => ⟨hk.1, Nat.lt_of_lt_of_le hk.2.1 hu.size, fun id ho => ?_⟩, fun id off v hv => ?_, fun id v hv => ⟨Nat.lt_succ_of_lt hv.1, hv.2⟩, fun id off v hv => ⟨Nat.lt_succ_of_lt hv.1, hv.2⟩⟩
    · rcases howned id k ho with ⟨_, h2⟩ | ⟨_, h2⟩
      · have := (hS k h2).1
        have : k < w.heap.size := hk.2.1
        omega
      · exact hk.2.2 id h2
    · obtain ⟨h1, rfl⟩ := hv
      exact ⟨Nat.lt_succ_of_lt h1, by simp [setN, show id ≠ s.nx by omega]⟩
  have hle2 : (baseCtx w' fun k => ((ctxOf E s.H s.nx σ τ w).ok k ∨ w.heap.size ≤ k) ∧ k < w'.heap.size ∧ ¬ S k).Le (ctxOf E ((s.nx, .obj (.sep S A)) :: s.H) (s.nx + 1) (setN σ s.nx b) τ w').still := by
    refine ⟨fun _ _ _ h => h, fun k hk => ?_, fun _ _ _ h => h, fun _ _ h => h, fun _ _ _ h => h⟩
    obtain ⟨hk1, hk2, hk3⟩ := hk
    refine ⟨?_, hk2, fun id ho => ?_⟩
    · rcases hk1 with hk1 | hk1
      · exact hk1.1
      · exact .inr (.inr (Nat.le_trans hs.heap.kept.size hk1))
    · rcases howned id k ho with ⟨_, h2⟩ | ⟨_, h2⟩
      · exact hk3 h2
      · rcases hk1 with hk1 | hk1
        · exact hk1.2.2 id h2
        · have := owned_lt hs.heap h2; omega
  refine ⟨_, _, setN σ s.nx b, τ, _, h A S hq, rfl, ⟨⟨hs.heap.kept.below hu, hs.heap.few, fun id el l hl => ?_, fun id α el e enc L hl => ?_, fun p q k h1 h2 => ?_, fun id o hl => ?_, hs.heap.slices, fun id o hl => ?_⟩, hs.defers, hs.size, fun j d hd => (hs.slots j d hd).mono hle, hs.ghost_le (s' := ⟨s.F, (s.nx, .obj (.sep S A)) :: s.H, s.nx + 1, s.G⟩) rfl hle, Nat.le_succ_of_le hs.room⟩, .loc ⟨Nat.lt_succ_self _, by simp [setN]⟩, fun _ => hu.toBelow⟩
  · have hi : id ≠ s.nx := by rintro rfl; rw [lget_same] at hl; cases hl
    rw [lget_ne _ _ hi] at hl
    have e0 : setN σ s.nx b id = σ id := by simp [setN, hi]
    rw [e0]
    obtain ⟨h1, c, h2, h3, h4⟩ := hs.heap.cells id el l hl
    exact ⟨h1, c, (hu.block _ (Array.getElem?_eq_some_iff.1 h2).1).trans h2, h3, fun j d u hd hu => (h4 j d u hd hu).mono hle⟩
  · have hi : id ≠ s.nx := by rintro rfl; rw [lget_same] at hl; cases hl
    rw [lget_ne _ _ hi] at hl
    obtain ⟨h1, xs, h2, h3, h4⟩ := hs.heap.grow id α el e enc L hl
    exact ⟨h1, xs, own_below h2 hu.toBelow, h3, fun p x j d u hx hd hu => (h4 p x j d u hx hd hu).mono hle.still⟩
  · rcases howned p k h1 with ⟨h3, h4⟩ | ⟨h3, h4⟩ <;> rcases howned q k h2 with ⟨h5, h6⟩ | ⟨h5, h6⟩
    · rw [h3, h5]
    · have := (hS k h4).1; have := owned_lt hs.heap h6; omega
    · have := (hS k h6).1; have := owned_lt hs.heap h4; omega
    · exact hs.heap.apart p q k h4 h6
  · by_cases hi : id = s.nx
    · subst hi; exact Nat.lt_succ_self _
    · rw [lget_ne _ _ hi] at hl; exact Nat.lt_succ_of_lt (hs.heap.below id o hl)
  · by_cases hi : id = s.nx
    · subst hi
      rw [lget_same] at hl
      injection hl with hl; injection hl with hl; subst hl
      have e0 : setN σ s.nx b s.nx = b := by simp [setN]
      rw [e0]
      exact ⟨fun k hk => ⟨.inr (Nat.le_trans hs.heap.kept.size (hS k hk).1), (hS k hk).2⟩, SepA.mono A (C := baseCtx w' fun k => ((ctxOf E s.H s.nx σ τ w).ok k ∨ w.heap.size ≤ k) ∧ k < w'.heap.size ∧ ¬ S k) (C' := ctxOf E ((s.nx, .obj (.sep S A)) :: s.H) (s.nx + 1) (setN σ s.nx b) τ w') hR (fun _ _ _ h => h) hle2⟩
    · rw [lget_ne _ _ hi] at hl
      have e0 : setN σ s.nx b id = σ id := by simp [setN, hi]
      rw [e0]
      obtain ⟨h1, h2⟩ := hs.heap.obj id o hl
      exact ⟨fun k hk => ⟨(h1 k hk).1, Nat.lt_of_lt_of_le (h1 k hk).2 hu.size⟩, OA.at_le h2 (fun k hk => hu.block k (h1 k hk).2) hle.still⟩
end
end Go.Proofs.Ytfepckbhnghpeaa.V
namespace Go.Proofs.Ytfepckbhnghpeaa.V
open Go.RowKit

section
variable {P : Program} {tt : TT} {E : Env} {s : St} {σ : Nat → Nat} {τ : Nat → Value} {a : Act} {w : World}

theorem pv_len (htt : ttOk P tt) {x : Operand} {t e : TypeId} {sz by_ : Nat} {z : List Value} {ad : Addr} {n c : Nat} {K : D → Prop} {o : Op} (ho : o = .call { callee := .builtin .len, args := #[x], argTypes := #[t] }) (hx : evD s x = .v (.slice (some ad) n c)) (ht : tfind tt t = some ⟨.slice e, sz, by_, z⟩) (hk : K (.v (.int .i64 n))) : PureVC P s o K := by
  refine ⟨fun o' ho' E σ τ a w hs => ?_⟩
  obtain ⟨de, i, zv, k1, _, _, k4, _⟩ := view_spec (tfind_view htt ht)
  have := ud_slice k4; subst this
  have hv := evD_rep hs x
  rw [hx] at hv
  have hv := rep_v hv
  refine ⟨_, _, hk, .v, fun w' _ => ?_⟩
  simp [execOp, ho', ho, resolve, invoke, builtin, hv, Builtin.len_, run_und k1, goInt]

end
end Go.Proofs.Ytfepckbhnghpeaa.V
namespace Go.Proofs.Ytfepckbhnghpeaa.V
open Go.RowKit

section
variable {P : Program} {tt : TT} {s : St}

theorem agg_v {C : Ctx} {vs : List Value} {u : Value} (h : Rep C (.agg (vs.map .v)) u) : u = .agg vs.toArray := by
  cases h with
  | agg hs hh =>
    rename_i c
    congr 1
    apply Array.ext'
    apply List.ext_getElem?
    intro j
    rw [List.length_map] at hs
    cases hq : vs[j]? with
    | none =>
      have := List.getElem?_eq_none_iff.1 hq
      rw [List.getElem?_eq_none (by rw [Array.length_toList]; omega)]
      try simp [hq]
    | some v =>
      have hj := (List.getElem?_eq_some_iff.1 hq).1
      obtain ⟨x, hx⟩ : ∃ x, c[j]? = some x := ⟨_, Array.getElem?_eq_getElem (show j < c.size by omega)⟩
      have := hh j (.v v) x (by rw [List.getElem?_map, hq]; rfl) hx
      rw [rep_v this] at hx
      rw [Array.getElem?_toList, hx]
      try simp [hq]

end
end Go.Proofs.Ytfepckbhnghpeaa.V
namespace Go.Proofs.Ytfepckbhnghpeaa.V
open Go.RowKit
abbrev intD (n : Int) : D := .v (.int .i64 n)
abbrev boolD (b : Bool) : D := .v (.bool b)
theorem u32_wrap (n : Int) : IntKind.u32.wrap n = n % 4294967296 := by
  rw [IntKind.wrap]; rfl
theorem Ob.exact {P : Program} {f : FuncId} {el : TypeId} {X rest : List D} {d0 : D} {X0 : List D} (h : Ob P f el X rest fun d X' => DLe d d0 ∧ X' = X0) : Ob P f el X rest fun d X' => d = d0 ∧ X' = X0 :=
  ⟨h.1, fun w B b c args' h1 h2 h3 h4 => (h.2 w B b c args' h1 h2 h3 h4).mono fun _ _ ⟨_, v, _, c', ⟨h5, h6⟩, h7, h8, h9, h10, h11⟩ => ⟨d0, v, X0, c', ⟨rfl, rfl⟩, h7, h8, h9, h6 ▸ h10, h5 _ _ h11⟩⟩
theorem sorted_unique {α : Type} {key : α → Int} : ∀ {l m : List α}, l.Perm m → l.Pairwise (fun x y => key x < key y) → m.Pairwise (fun x y => key x < key y) → l = m
  | [], m, hp, _, _ => (List.Perm.eq_nil hp.symm).symm
  | x :: l, [], hp, _, _ => by have := hp.length_eq; simp at this
  | x :: l, y :: m, hp, hl, hm => by
    rw [List.pairwise_cons] at hl hm
    have hxy : x = y := by
      have hx : x ∈ y :: m := hp.subset List.mem_cons_self
      have hy : y ∈ x :: l := hp.symm.subset List.mem_cons_self
      rcases List.mem_cons.1 hx with h | h
      · exact h
      · rcases List.mem_cons.1 hy with h' | h'
        · exact h'.symm
        · have h1 := hm.1 x h
          have h2 := hl.1 y h'
          omega
    subst hxy
    rw [sorted_unique (List.Perm.cons_inv hp) hl.2 hm.2]
theorem pairwise_get {α : Type} {R : α → α → Prop} {l : List α} : l.Pairwise R ↔ ∀ (i j : Nat) x y, j < i → l[i]? = some x → l[j]? = some y → R y x := by
  rw [List.pairwise_iff_getElem]
  constructor
  · intro h i j x y hij hx hy
    obtain ⟨hi, rfl⟩ := List.getElem?_eq_some_iff.1 hx
    obtain ⟨hj, rfl⟩ := List.getElem?_eq_some_iff.1 hy
    exact h j i hj hi hij
  · intro h i j hi hj hij
    exact h j i _ _ hij (List.getElem?_eq_getElem hj) (List.getElem?_eq_getElem hi)
theorem map_get {α β : Type} {f : α → β} {l : List α} {i : Nat} {y : β} (h : (l.map f)[i]? = some y) : ∃ x, l[i]? = some x ∧ f x = y := by
  rw [List.getElem?_map] at h
  cases hq : l[i]? with
  | none => rw [hq] at h; cases h
  | some x => rw [hq] at h; simp only [Option.map_some, Option.some.injEq] at h; exact ⟨x, rfl, h⟩
theorem sub_list {α : Type} {p : α → Prop} (L : List α) (h : ∀ x, x ∈ L → p x) : ∃ M : List {x // p x}, M.map Subtype.val = L := by
  induction L with
  | nil => exact ⟨[], rfl⟩
  | cons x r ih =>
    obtain ⟨M, hM⟩ := ih fun y hy => h y (List.mem_cons_of_mem _ hy)
    exact ⟨⟨x, h x List.mem_cons_self⟩ :: M, by simp [hM]⟩

theorem sorted_one {α : Type} {key : α → Int} {S M : List α} (hS : S.Pairwise fun x y => key x < key y) (hp : M.Perm S) (h : ∀ (i j : Nat) x y, i < j → M[i]? = some x → M[j]? = some y → key x ≤ key y) : M = S := by
  refine sorted_unique hp (pairwise_get.2 fun i j x y hij hx hy => ?_) hS
  have h1 := h j i y x hij hy hx
  have h2 : S.Pairwise fun x y => key x ≠ key y := hS.imp (fun h => by omega)
  have h3 : M.Pairwise fun x y => key x ≠ key y := (List.Perm.pairwise_iff (fun {a b} h => Ne.symm h) hp).2 h2
  have h4 := pairwise_get.1 h3 i j x y hij hx hy
  omega

end Go.Proofs.Ytfepckbhnghpeaa.V
namespace Go.Proofs.Ytfepckbhnghpeaa.V

def Byt (l : List Nat) : Prop := ∀ x, x ∈ l → x < 256
theorem Byt.nil : Byt [] := fun x h => by cases h
theorem Byt.cons {x : Nat} {l : List Nat} (hx : x < 256) (h : Byt l) : Byt (x :: l) := fun y hy => by
  rcases List.mem_cons.1 hy with rfl | hy
  · exact hx
  · exact h y hy
theorem Byt.append {a b : List Nat} (ha : Byt a) (hb : Byt b) : Byt (a ++ b) := fun y hy => by
  rcases List.mem_append.1 hy with h | h
  · exact ha y h
  · exact hb y h
theorem Byt.sub {a b : List Nat} (ha : Byt a) (h : ∀ x, x ∈ b → x ∈ a) : Byt b := fun y hy => ha y (h y hy)
theorem Byt.tail {x : Nat} {l : List Nat} (h : Byt (x :: l)) : Byt l := h.sub fun _ hy => List.mem_cons_of_mem _ hy
theorem Byt.head {x : Nat} {l : List Nat} (h : Byt (x :: l)) : x < 256 := h x List.mem_cons_self
theorem Byt.take {l : List Nat} (h : Byt l) (n : Nat) : Byt (l.take n) := h.sub fun _ hy => List.mem_of_mem_take hy
theorem Byt.drop {l : List Nat} (h : Byt l) (n : Nat) : Byt (l.drop n) := h.sub fun _ hy => List.mem_of_mem_drop hy
theorem Byt.get {l : List Nat} (h : Byt l) {n x : Nat} (hx : l[n]? = some x) : x < 256 := h x (List.mem_of_getElem? hx)

end Go.Proofs.Ytfepckbhnghpeaa.V
namespace Go.Proofs.Ytfepckbhnghpeaa.V
open Go.RowKit

def FnR (P : Program) (f : FuncId) (args : List D) (α : Type) (el : TypeId) (e : Nat) (enc : α → List D) (L : List α) : Prop :=
  hasBody P f ∧ ∀ (w : World) (B : Nat → Prop) (args' : List Value), (∀ b, B b → b < w.heap.size) → reps (baseCtx w B) args args' →
    Calls P f args'.toArray w fun x w' => ∃ v xs, x = .returned v ∧ Under w.heap.size w w' ∧ (∃ p l c, v = .slice p l c) ∧ (∀ g, v.ownBlock = some g → w.heap.size ≤ g) ∧ w'.ownsRow 0 el e v L.length xs ∧ (∀ (i : Nat) x, L[i]? = some x → (enc x).length = e) ∧
      ∀ (i : Nat) x (j : Nat) d u, L[i]? = some x → (enc x)[j]? = some d → xs[i * e + j]? = some u → ∀ C, Rep C d u

def rowAns (s : St) (d : D) (α : Type) (el : TypeId) (e : Nat) (enc : α → List D) (L : List α) : Prop := match d with
  | .grow id => (∀ x, (enc x).all (flatD 1) = true) ∧ lget s.H id = some (.grow α el e enc L)
  | .v (.slice none 0 0) => L = []
  | _ => False

section
variable {P : Program} {tt : TT} {pl : Plans} {K : D → St → Prop} {f : FuncId} {args : List D} {α : Type} {el : TypeId} {e : Nat} {enc : α → List D} {L : List α}

theorem owns_nil (w : World) (el : TypeId) (e : Nat) : w.ownsRow 0 el e (.slice none 0 0) 0 [] := ⟨by simp, .inl ⟨rfl, rfl⟩⟩

theorem fnR_of_wpc (htt : ttOk P tt) (hb : entersAll P = true) (hm : P.follows .mixedOrders = true) {fn : Func} {c : Code} (hfn : P.funcs[f]? = some fn) (hc : fn.body = some c) (hok : codeOk pl fn.ntmps c = true)
    (hn : args.length ≤ fn.ntmps) (h : wpc P tt pl c ⟨enumD args 0, [], 0, ([], 0)⟩ fun x s => endK x (resK tt s fn.results.toList fun l => seeD (oneD l) fun d => rowAns s d α el e enc L)) : FnR P f args α el e enc L := by
  refine ⟨⟨fn, hfn, by rw [hc]; rfl⟩, fun w B args' hB hr => ?_⟩
  have hr0 := hr
  let E : Env := ⟨w, B, fun _ => False, fn.ntmps, fun _ _ _ => False⟩
  have hle : (baseCtx w B).Le (ctxOf E [] 0 (fun _ => 0) (fun _ => .slice none 0 0) w) :=
    ⟨fun _ _ _ h => h, (fun b hb => ⟨.inl hb, hB b hb, fun id ho => by rcases ho with ⟨_, _, h, _⟩ | ⟨_, _, _, _, _, h, _⟩ | ⟨_, h, _⟩ <;> cases h⟩), fun _ _ _ h => h.elim, fun _ _ h => h.elim, fun _ _ _ h => h.elim⟩
  have hlen : args'.length ≤ fn.ntmps := by rw [hr.1]; exact hn
  have hs : SR E ⟨enumD args 0, [], 0, ([], 0)⟩ (fun _ => 0) (fun _ => .slice none 0 0) { tmps := args'.toArray ++ Array.replicate (fn.ntmps - args'.toArray.size) undef, defers := [] } w :=
    ⟨⟨⟨rfl, rfl, rfl, Nat.le_refl _, fun _ _ _ => rfl, Nat.le_refl _⟩, fun b hb => ⟨fun h => h, hB b hb⟩, (fun id el l h => by cases h), (fun id α el e enc L h => by cases h), (fun i j b h => by rcases h with ⟨_, _, h, _⟩ | ⟨_, _, _, _, _, h, _⟩ | ⟨_, h, _⟩ <;> cases h), (fun id o h => by cases h), fun _ => ⟨_, _, _, rfl⟩, fun id o h => by cases h⟩,
      rfl, by simp [E]; omega, fun i d hd => (enter_slots hr0 fn.ntmps i d hd).mono hle, fun _ _ _ h => h.elim, Nat.le_refl _⟩
  refine calls_of_wp hfn hc (wp_mono (wpc_sound (E := E) htt hb hm c hok _ _ _ _ _ w h hs) fun x a1 w1 hh => ?_)
  obtain ⟨x, s1, σ1, τ1, rfl, h1, h2⟩ := hh
  have fin : resK tt s1 fn.results.toList (fun l => seeD (oneD l) fun d => rowAns s1 d α el e enc L) → a1.defers = [] ∧ ∃ v, (results fn a1.tmps).run P w1 = .ok v w1 ∧ ∃ u xs, Ending.returned v = .returned u ∧ Under w.heap.size w w1 ∧ (∃ p l c, u = .slice p l c) ∧ (∀ g, u.ownBlock = some g → w.heap.size ≤ g) ∧
      w1.ownsRow 0 el e u L.length xs ∧ (∀ (i : Nat) x, L[i]? = some x → (enc x).length = e) ∧ ∀ (i : Nat) x (j : Nat) d u, L[i]? = some x → (enc x)[j]? = some d → xs[i * e + j]? = some u → ∀ C, Rep C d u := by
    intro hres
    obtain ⟨l, vs, h3, h4, h5⟩ := resK_run htt h2 _ _ hres
    rw [seeD_eq] at h3
    have hbel : Under w.heap.size w w1 := ⟨⟨h2.heap.kept.os, h2.heap.kept.tape, h2.heap.kept.output, h2.heap.kept.size, fun k hk => h2.heap.kept.block k hk (fun h => h)⟩, h2.heap.kept.drawn⟩
    have hone := oneD_rep h4
    generalize oneD l = d at *
    unfold rowAns at h3
    split at h3
    · rename_i id
      obtain ⟨hfl, hg⟩ := h3
      have hv : oneV vs = τ1 id := by
        cases hone with
        | grow hh => exact hh.2
      obtain ⟨k1, xs, k2, k3, k4⟩ := h2.heap.grow id α el e enc L hg
      refine ⟨h2.defers, _, results_at h5, τ1 id, xs, by rw [hv], hbel, h2.heap.slices id, fun g hh => (k1 g hh).elim (fun h => h.elim) fun h => h, k2, k3, fun i x j d u hx hd hu C => flat_rep 1 d u (all_at (hfl x) hd) (k4 i x j d u hx hd hu)⟩
    · subst h3
      have hv : oneV vs = .slice none 0 0 := by
        generalize oneV vs = y at hone
        cases hone
        rfl
      exact ⟨h2.defers, _, results_at h5, .slice none 0 0, [], (by rw [hv]), hbel, ⟨_, _, _, rfl⟩, (fun g hh => (by cases hh)), owns_nil w1 el e, (fun i x hx => (by simp at hx)), (fun i x j d u hx => (by simp at hx))⟩
    · exact h3.elim
  cases x with
  | normal => exact fin h1
  | ret => exact fin h1
  | exit i => exact h1.elim

theorem CallVC.row {F : List (Nat × D)} {H : List (Nat × LO)} {nx : Nat} {G : List Nat × Nat} {g : Bool} {args0 : List D} (hf : FnR P f args0 α el e enc L) (he : args.map (snapD 6 H) = args0) (h : K (.grow nx) ⟨F, (nx, .grow α el e enc L) :: H, nx + 1, G⟩) : CallVC P g f args ⟨F, H, nx, G⟩ K := by
  subst he
  generalize hs0 : (⟨F, H, nx, G⟩ : St) = s
  have hH : H = s.H := by rw [← hs0]
  rw [hH] at hf
  replace h : K (.grow s.nx) ⟨s.F, (s.nx, .grow α el e enc L) :: s.H, s.nx + 1, s.G⟩ := by rw [← hs0]; exact h
  clear hs0 hH
  refine ⟨hf.1, fun E σ τ a w args' hs hr => ?_⟩
  have hr' : reps (baseCtx w fun b => ((E.B b ∨ E.K b) ∨ E.w.heap.size ≤ b) ∧ b < w.heap.size) (args.map (snapD 6 s.H)) args' := by
    refine ⟨by simp [hr.1], fun j d u hd hu => ?_⟩
    rw [List.getElem?_map] at hd
    cases hq : args[j]? with
    | none => rw [hq] at hd; cases hd
    | some x =>
      rw [hq] at hd
      simp only [Option.map_some, Option.some.injEq] at hd
      subst hd
      exact snap_rep hs.heap 6 x u (hr.2 j x u hq hu)
  refine (hf.2 w _ args' (fun b hb => hb.2) hr').mono fun x w' hh => ?_
  obtain ⟨v, xs, rfl, hu, hsl, hbk, hown, hlen, hrep⟩ := hh
  let τ1 : Nat → Value := fun i => if i = s.nx then v else τ i
  have hτ : τ1 s.nx = v := if_pos rfl
  have own : ∀ id k, owned [(s.nx, .grow α el e enc L)] σ τ1 id k → id = s.nx := by
    intro id k ho
    by_cases hid : id = s.nx
    · exact hid
    · rcases ho with ⟨el', l', h1, _⟩ | ⟨α, el', e, enc, L, h1, _⟩ | ⟨o, h1, _⟩ <;> (rw [lget_ne _ _ hid] at h1; cases h1)
  have h2 : HR (freshEnv E s σ τ w 1) [(s.nx, .grow α el e enc L)] (s.nx + 1) σ τ1 w' := by
    refine ⟨⟨hu.os, hu.tape, hu.output, hu.size, fun k hk _ => hu.block k hk, hu.drawn⟩, fun k hk => ⟨fun h => h, hk.2.1⟩, fun id el l hl => ?_, fun id α' el' e' enc' L' hl => ?_, fun i j k h1 h2 => (own i k h1).trans (own j k h2).symm, fun id o hl => ?_, fun id => ?_, fun id o hl => ?_⟩
    · by_cases hid : id = s.nx
      · subst hid; rw [lget_same] at hl; cases hl
      · rw [lget_ne _ _ hid] at hl; cases hl
    · by_cases hid : id = s.nx
      · subst hid
        rw [lget_same] at hl
        injection hl with hl; injection hl with q1 q2 q3 q4 q5; subst q1 q2 q3
        obtain rfl := eq_of_heq q4
        obtain rfl := eq_of_heq q5
        rw [hτ]
        exact ⟨fun g hg => .inr (hbk g hg), xs, hown, hlen, fun i x j d u hx hd hu => hrep i x j d u hx hd hu _⟩
      · rw [lget_ne _ _ hid] at hl; cases hl
    · by_cases hid : id = s.nx
      · subst hid; exact Nat.lt_succ_self _
      · rw [lget_ne _ _ hid] at hl; cases hl
    · by_cases hid : id = s.nx
      · subst hid; rw [hτ]; exact hsl
      · show ∃ p l c, (if id = s.nx then v else τ id) = _
        rw [if_neg hid]; exact hs.heap.slices id
    · by_cases hid : id = s.nx
      · subst hid; rw [lget_same] at hl; cases hl
      · rw [lget_ne _ _ hid] at hl; cases hl
  have hge : idsGe s.nx [(s.nx, .grow α el e enc L)] = true := by
    simp only [idsGe, loGe, Bool.and_true]
    exact Nat.ble_eq_true_of_le (Nat.le_refl _)
  obtain ⟨hbel, σ2, τ2, h6, h7⟩ := merge_state hs h2 hge (Nat.le_succ _)
  exact ⟨_, _, σ2, τ2, _, h, rfl, h6, h7 _ _ (Nat.ble_eq_true_of_le (Nat.le_refl _)) (.grow ⟨Nat.lt_succ_self _, hτ.symm⟩), fun _ => hbel⟩
end
end Go.Proofs.Ytfepckbhnghpeaa.V
namespace Go.Proofs.Ytfepckbhnghpeaa.V
open Go.RowKit
section
variable {P : Program} {tt : TT} {s : St}

theorem op_makeSlice (htt : ttOk P tt) {g : Bool} {o : Oper} {t el : TypeId} {a1 a2 a3 ti} {x y : Operand} {kk kk' : IntKind} {n : Int} {β : Type} {enc : β → List D} {zz : β} (ho : o.op = .makeSlice t x y) (hx : evD s x = .v (.int kk n)) (hy : evD s y = .v (.int kk' n))
    (ht : tfind tt t = some ⟨.slice el, a1, a2, a3⟩) (he : tfind tt el = some ti) (hs0 : 0 < ti.size) (hzl : ti.zero.length = ti.size) (hnn : 0 < n ∧ n ≤ 1099511627776 ∧ n * ti.bytes ≤ 140737488355328) (hzz : enc zz = ti.zero.map .v) {K : D → St → Prop}
    (h : K (.grow s.nx) ⟨s.F, (s.nx, .grow β el ti.size enc (List.replicate n.toNat zz)) :: s.H, s.nx + 1, s.G⟩) : OpVC P g o s K := by
  intro E σ τ a w hs next Q hn
  obtain ⟨de, i, z, k1, _, _, k4, _⟩ := view_spec (tfind_view htt ht)
  have := ud_slice k4; subst this
  obtain ⟨_, q, zv, q1, q2, q3, _, q5, q6, q7⟩ := view_spec (tfind_view htt he)
  obtain ⟨hn0, hn1, hn2⟩ := hnn
  have hxr := evD_rep hs x
  rw [hx] at hxr
  have hxv := rep_v hxr
  have hyr := evD_rep hs y
  rw [hy] at hyr
  have hyv := rep_v hyr
  have hzc : zv.cells.size = ti.size := by rw [← hzl, ← q7]; simp
  obtain ⟨m, rfl⟩ : ∃ m : Nat, n = (m : Int) := ⟨n.toNat, by omega⟩
  have hb3 : (q.bytes : Int) * (m : Int) ≤ 2 ^ 48 := by rw [q6, Int.mul_comm]; have : (m : Int) * ti.bytes ≤ 140737488355328 := hn2; omega
  have hrun := run_make (P := P) w t el q zv k1 q2 q3 kk kk' m m (by omega) (Int.le_refl _) hb3 (by omega)
  rw [Int.toNat_natCast, q5] at hrun
  have hml : (maxLen : Nat) = 9223372036854775807 := by decide
  have hsz : (madeCells zv.cells (m * ti.size)).size = m * ti.size := by simp [madeCells]
  have hown : (w.alloc (.cells (madeCells zv.cells (m * ti.size)) el)).ownsRow 0 el ti.size (.slice (some ⟨w.heap.size, 0, none⟩) m m) m (madeCells zv.cells (m * ti.size)).toList := by
    refine ⟨by simp [hsz], .inr ⟨w.heap.size, _, _, rfl, Nat.zero_le _, heap_alloc_new w _, Nat.le_refl _, by rw [hml]; omega, hsz, ?_⟩⟩
    exact List.take_of_length_le (by rw [Array.length_toList, hsz]; exact Nat.le_refl _)
  obtain ⟨F, H, nx, G⟩ := s
  obtain ⟨τ', r6, r7⟩ := grow_state (dst := .v (.slice none 0 0)) (u := .slice none 0 0) (el := el) (e := ti.size) (old := []) (w' := w.alloc (.cells (madeCells zv.cells (m * ti.size)) el)) hs (by simp [ownRows]) .v (Nat.le_refl _) (World.grownBy_alloc w _ _) (.inr (.inr rfl)) ⟨_, _, _, rfl⟩ (β := β) (enc := enc) (L := List.replicate m zz) (xs := (madeCells zv.cells (m * ti.size)).toList)
    (by rw [List.length_replicate]; exact hown) (fun i x hx => by
      have := List.eq_of_mem_replicate (List.mem_of_getElem? hx)
      subst this
      rw [hzz, List.length_map, hzl]) (fun i x j d v hx hd hv => by
      have := List.eq_of_mem_replicate (List.mem_of_getElem? hx)
      subst this
      have hj : j < ti.size := by have := (List.getElem?_eq_some_iff.1 hd).1; rw [hzz, List.length_map, hzl] at this; exact this
      have hi : i < m := by have := (List.getElem?_eq_some_iff.1 hx).1; simpa using this
      have hb : i * ti.size + ti.size ≤ m * ti.size := by
        have := Nat.mul_le_mul_right ti.size (show i + 1 ≤ m from hi)
        rw [Nat.succ_mul] at this; exact this
      rw [hzz, List.getElem?_map] at hd
      have hm : (i * ti.size + j) % zv.cells.size = j := by rw [hzc, Nat.add_comm, Nat.add_mul_mod_self_right]; exact Nat.mod_eq_of_lt hj
      have hv2 : zv.cells.toList[j]? = some v := by
        have h1 : (madeCells zv.cells (m * ti.size)).toList[i * ti.size + j]? = zv.cells[(i * ti.size + j) % zv.cells.size]? := by
          have h2 : (i * ti.size + j) % zv.cells.size < zv.cells.size := by rw [hm, hzc]; exact hj
          simp only [madeCells, Array.toList_map, List.getElem?_map, Array.getElem?_toList, Array.getElem?_range]
          rw [if_pos (by omega)]
          simp only [Option.map_some]
          rw [getElem!_pos zv.cells _ h2, Array.getElem?_eq_getElem h2]
        rw [h1, hm] at hv
        rw [Array.getElem?_toList]
        exact hv
      rw [← q7, hv2] at hd
      simp only [Option.map_some, Option.some.injEq] at hd
      subst hd
      exact .v)
  have hexec : (execOp a.eval o).run P w = .ok (.value (.slice (some ⟨w.heap.size, 0, none⟩) m m)) (w.alloc (.cells (madeCells zv.cells (m * ti.size)) el)) := by
    simp [execOp, ho, hxv, hyv, hrun]
  unfold Oper.wp
  rw [hexec]
  exact hn _ _ _ _ _ _ h r6 (.grow ⟨Nat.lt_succ_self _, r7.symm⟩) (fun _ => (Below.refl _ _).alloc (Nat.le_refl _) _)
end
end Go.Proofs.Ytfepckbhnghpeaa.V
