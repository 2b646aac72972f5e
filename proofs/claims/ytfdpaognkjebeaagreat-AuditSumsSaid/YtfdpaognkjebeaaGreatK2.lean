/-
  The law AuditSums, by value. Conditions: none.
  Rows of loads that come in. No condition.
-/
import Derived.Test.YtfdpaognkjebeaaGreatK1
import Derived.Test.YtfdpaognkjebeaaGreatCeR
import Derived.Test.YtfdpaognkjebeaaGreatQaz
import Derived.Test.YtfdpaognkjebeaaGreatLaw
import Derived.Test.YtfdpaognkjebeaaGreatReads
namespace Go.Proofs.YtfdpaognkjebeaaGreat.V
open Go.RowKit
attribute [local irreducible] Fn CallVC OpVC

structure Ld where
  b : Int
  d : Int
  p : Int
def ldD (x : Ld) : List D := [intD x.b, intD x.d, intD x.p]
abbrev rowsL (L : List Ld) : D := .rows Ld 3 ldD L

/-- Sums as the machine reckons them. -/
def sums (f : Ld → Int) (L : List Ld) : Nat → Int
  | 0 => 0
  | k + 1 => match L[k]? with
    | some x => IntKind.i64.wrap (sums f L k + f x)
    | none => sums f L k
theorem sums_next {f : Ld → Int} {L : List Ld} {k : Nat} {x : Ld} (h : L[k]? = some x) : sums f L (k + 1) = IntKind.i64.wrap (sums f L k + f x) := by
  rw [sums, h]

theorem fn_of_flat {f : FuncId} {args : List Value} {v : Value} (hb : hasBody Tryz.prog f) (h : ∀ w, Calls Tryz.prog f args.toArray w fun e w' => e = .returned v ∧ Below w.heap.size w w') : Fn Tryz.prog f (args.map .v) fun d => d = .v v := by
  unfold Fn
  refine ⟨hb, fun w B vs _ hr => ?_⟩
  have : vs = args := by
    refine List.ext_getElem? fun i => ?_
    have hl : vs.length = args.length := by have := hr.1; simpa using this
    by_cases hi : i < args.length
    · have h1 : (args.map D.v)[i]? = some (.v args[i]) := by rw [List.getElem?_map, List.getElem?_eq_getElem hi]; rfl
      have h2 : vs[i]? = some vs[i] := List.getElem?_eq_getElem (by omega)
      have h3 := rep_v (hr.2 i _ _ h1 h2)
      rw [h2, h3, List.getElem?_eq_getElem hi]
    · rw [List.getElem?_eq_none (by omega), List.getElem?_eq_none (by omega)]
  subst this
  exact (h w).mono fun e w' ⟨h1, h2⟩ => ⟨_, _, rfl, h1, h2, .v⟩

theorem per_fn : Fn Tryz.prog 15 [.v (.pointer none)] fun d => d = .v (.slice none 0 0) :=
  fn_of_flat (args := [.pointer none]) ⟨_, Tryz.func15, rfl⟩ fun w => comes_nil 100000 60 _ (by kernel_rfl) w
theorem idle_fn : Fn Tryz.prog 16 [.v (.pointer none)] fun d => d = .v (.slice none 0 0) :=
  fn_of_flat (args := [.pointer none]) ⟨_, Tryz.func16, rfl⟩ fun w => comes_nil 100000 60 _ (by kernel_rfl) w
theorem alives_fn : Fn Tryz.prog 17 [] fun d => d = boolD true :=
  fn_of_flat (args := []) ⟨_, Tryz.func17, rfl⟩ fun w => qacalls w

theorem sum_fn (L : List Ld) (hl : L.length ≤ 50) : Fn Tryz.prog 14 [rowsL L] fun r => r = .agg [intD 0, intD (sums (·.d) L L.length), intD (sums (·.p) L L.length)] := by
  refine fnOf [] Tryz.func14 rfl (by kernel_rfl) (Nat.le_of_ble_eq_true rfl) ?_
  conv => whnf
  refine ⟨Nat, fun k => ⟨[(8, intD k), (7, intD L.length), (6, rowsL L), (3, .loc 1 0), (2, .loc 0 0)], [(0, .cells 52 [intD 0, intD 0, intD 0]), (1, .cells 52 [intD 0, intD (sums (·.d) L k), intD (sums (·.p) L k)])], 2, ([], 0)⟩,
    fun k => k ≤ L.length, fun k => L.length - k, ⟨0, [], [], ?_, Nat.zero_le _⟩, ?_⟩
  · repeat' (first | exact trivial | exact .inl (DLe.refl _) | exact .inl (DLe.nil _ _) | (refine .inr ⟨rfl, _, ?_, rfl⟩; rfl) | exact rfl | exact Nat.zero_le _ | constructor)
  · intro k hk
    conv => whnf
    refine Fork.intro (fun h1 => ?_) (fun h1 => ?_)
    · have hlt : (k : Int) < L.length := of_decide_eq_true h1
      conv => whnf
      refine ⟨rfl, ⟨by omega, hlt⟩, fun x hx => ?_⟩
      have hxk : L[k]? = some x := by simpa using hx
      have e1 := sums_next (f := (·.d)) hxk
      have e2 := sums_next (f := (·.p)) hxk
      conv => whnf
      rw [wrap_next (show k < 50 by omega) (by omega)]
      refine ⟨k + 1, [], [], ?_, by show k + 1 ≤ _; omega, by show L.length - (k + 1) < L.length - k; omega⟩
      show Cover _ _ _ ⟨_, [_, (1, .cells _ [_, intD (sums (·.d) L (k + 1)), intD (sums (·.p) L (k + 1))])], _, _⟩
      rw [e1, e2]
      repeat' (first | exact trivial | exact .inl (DLe.refl _) | exact .inl (DLe.nil _ _) | (refine .inr ⟨rfl, _, ?_, rfl⟩; rfl) | exact rfl | exact Nat.zero_le _ | constructor)
    · have hge : ¬ (k : Int) < L.length := of_decide_eq_false h1
      obtain rfl : k = L.length := by omega
      conv => whnf
      rfl

theorem gen_rows {K : D → Prop} {M0 : List Ld} (h : ∀ M : List Ld, M.length ≤ 50 → K (rowsL M)) (h0 : M0.length ≤ 50) : K (rowsL M0) := h _ h0

theorem auditSums_fn (L : List Ld) : Fn Tryz.prog 4 [rowsL L] fun d => d = boolD true := by
  refine fnOf [] Tryz.func4 rfl (by kernel_rfl) (Nat.le_of_ble_eq_true rfl) ?_
  conv => whnf
  refine Fork.intro (fun h1 => ?_) (fun h1 => ?_)
  · have hlen : (L.length : Int) > 50 := of_decide_eq_true h1
    conv => whnf
    refine ⟨rfl, ⟨by omega, by omega, by omega⟩, ?_⟩
    have hM : ((L.take (50 : Int).toNat).drop (0 : Nat)).length ≤ 50 := by rw [List.drop_zero, List.length_take]; show min 50 _ ≤ 50; omega
    refine gen_rows ?_ hM
    clear hM
    intro M hM
    conv => whnf
    refine ⟨Nat, fun k => ⟨[(5, intD k), (4, intD (sums (·.p) M k)), (3, intD (sums (·.d) M k)), (0, rowsL M)], [], 0, ([], 0)⟩, fun k => k ≤ M.length, fun k => M.length - k, ⟨0, [], [], ?_, Nat.zero_le _⟩, ?_⟩
    · repeat' (first | exact trivial | exact .inl (DLe.refl _) | exact .inl (DLe.nil _ _) | (refine .inr ⟨rfl, _, ?_, rfl⟩; rfl) | exact rfl | exact Nat.zero_le _ | constructor)
    · intro k hk
      conv => whnf
      refine Fork.intro (fun h2 => ?_) (fun h2 => ?_)
      · have hlt : (k : Int) < M.length := of_decide_eq_true h2
        conv => whnf
        refine ⟨rfl, ⟨by omega, hlt⟩, fun x hx => ?_⟩
        have hxk : M[k]? = some x := by simpa using hx
        have e1 := sums_next (f := (·.d)) hxk
        have e2 := sums_next (f := (·.p)) hxk
        conv => whnf
        refine ⟨rfl, ⟨by omega, hlt⟩, fun x' hx' => ?_⟩
        obtain rfl : x' = x := by rw [hx] at hx'; injection hx' with hx'; exact hx'.symm
        conv => whnf
        rw [wrap_next (show k < 50 by omega) (by omega)]
        refine ⟨k + 1, [], [], ?_, by show k + 1 ≤ _; omega, by show M.length - (k + 1) < M.length - k; omega⟩
        show Cover _ _ _ ⟨[_, (4, intD (sums (·.p) M (k + 1))), (3, intD (sums (·.d) M (k + 1))), _], _, _, _⟩
        rw [e1, e2]
        repeat' (first | exact trivial | exact .inl (DLe.refl _) | exact .inl (DLe.nil _ _) | (refine .inr ⟨rfl, _, ?_, rfl⟩; rfl) | exact rfl | exact Nat.zero_le _ | constructor)
      · have hge : ¬ (k : Int) < M.length := of_decide_eq_false h2
        obtain rfl : k = M.length := by omega
        conv => whnf
        refine CallVC.pure (sum_fn M hM) rfl ?_
        rintro _ rfl
        conv => whnf
        have hd : ∀ x : Int, decide (x = x) = true := fun _ => decide_eq_true rfl
        rw [hd]
        conv => whnf
        rw [hd]
        conv => whnf
        refine CallVC.pure per_fn rfl ?_
        rintro _ rfl
        conv => whnf
        refine CallVC.pure idle_fn rfl ?_
        rintro _ rfl
        conv => whnf
        refine CallVC.pure alives_fn rfl ?_
        rintro _ rfl
        conv => whnf
  · have hM : L.length ≤ 50 := by have := of_decide_eq_false h1; omega
    generalize L = M at *
    conv => whnf
    refine ⟨Nat, fun k => ⟨[(5, intD k), (4, intD (sums (·.p) M k)), (3, intD (sums (·.d) M k)), (0, rowsL M)], [], 0, ([], 0)⟩, fun k => k ≤ M.length, fun k => M.length - k, ⟨0, [], [], ?_, Nat.zero_le _⟩, ?_⟩
    · repeat' (first | exact trivial | exact .inl (DLe.refl _) | exact .inl (DLe.nil _ _) | (refine .inr ⟨rfl, _, ?_, rfl⟩; rfl) | exact rfl | exact Nat.zero_le _ | constructor)
    · intro k hk
      conv => whnf
      refine Fork.intro (fun h2 => ?_) (fun h2 => ?_)
      · have hlt : (k : Int) < M.length := of_decide_eq_true h2
        conv => whnf
        refine ⟨rfl, ⟨by omega, hlt⟩, fun x hx => ?_⟩
        have hxk : M[k]? = some x := by simpa using hx
        have e1 := sums_next (f := (·.d)) hxk
        have e2 := sums_next (f := (·.p)) hxk
        conv => whnf
        refine ⟨rfl, ⟨by omega, hlt⟩, fun x' hx' => ?_⟩
        obtain rfl : x' = x := by rw [hx] at hx'; injection hx' with hx'; exact hx'.symm
        conv => whnf
        rw [wrap_next (show k < 50 by omega) (by omega)]
        refine ⟨k + 1, [], [], ?_, by show k + 1 ≤ _; omega, by show M.length - (k + 1) < M.length - k; omega⟩
        show Cover _ _ _ ⟨[_, (4, intD (sums (·.p) M (k + 1))), (3, intD (sums (·.d) M (k + 1))), _], _, _, _⟩
        rw [e1, e2]
        repeat' (first | exact trivial | exact .inl (DLe.refl _) | exact .inl (DLe.nil _ _) | (refine .inr ⟨rfl, _, ?_, rfl⟩; rfl) | exact rfl | exact Nat.zero_le _ | constructor)
      · have hge : ¬ (k : Int) < M.length := of_decide_eq_false h2
        obtain rfl : k = M.length := by omega
        conv => whnf
        refine CallVC.pure (sum_fn M hM) rfl ?_
        rintro _ rfl
        conv => whnf
        have hd : ∀ x : Int, decide (x = x) = true := fun _ => decide_eq_true rfl
        rw [hd]
        conv => whnf
        rw [hd]
        conv => whnf
        refine CallVC.pure per_fn rfl ?_
        rintro _ rfl
        conv => whnf
        refine CallVC.pure idle_fn rfl ?_
        rintro _ rfl
        conv => whnf
        refine CallVC.pure alives_fn rfl ?_
        rintro _ rfl
        conv => whnf
end Go.Proofs.YtfdpaognkjebeaaGreat.V
namespace Go.Proofs.YtfdpaognkjebeaaGreat.V
open Go.ChangeShapes Go.WideShapes Go.ChangeAt Go.RowKit

def ldV (x : Ld) : List Value := [.int .i64 x.b, .int .i64 x.d, .int .i64 x.p]
instance : Inhabited Ld := ⟨⟨0, 0, 0⟩⟩

section
variable {H : Type} {enc : TypeId × Value → H} {W : World}
theorem ld_elem {fuel : Nat} {cs : List Value} {x : DataW H × List MemPlace} (h : DataW.trod enc Tryz.prog W 0 (fun _ => true) true fuel 52 cs = some x) :
    ∃ d : Ld, True ∧ ∀ (j : Nat) (c : Value), (ldV d)[j]? = some c → cs[j]? = some c := by
  obtain ⟨z, hz⟩ := trod_kinds (d := 4) [.i64, .i64, .i64] (by kernel_rfl) h
  refine ⟨⟨z 0, z 1, z 2⟩, trivial, ?_⟩
  intro j c hj
  match j, hj with
  | 0, hj => simp [ldV] at hj; subst hj; exact (hz 0 _ rfl).1
  | 1, hj => simp [ldV] at hj; subst hj; exact (hz 1 _ rfl).1
  | 2, hj => simp [ldV] at hj; subst hj; exact (hz 2 _ rfl).1
  | n + 3, hj => simp [ldV] at hj
end
end Go.Proofs.YtfdpaognkjebeaaGreat.V
