/-
  A host made new at the usual configuration: it comes, and what its cells hold; by a run on abstract memory. No condition. (printed by gen_mna.py)
-/
import Derived.Test.YtbjhkhhbdlnfbaaGreatDoorCeP
import Derived.Test.YtbjhkhhbdlnfbaaGreatDoorCeL
import Derived.Test.YtbjhkhhbdlnfbaaGreatDoorK2
namespace Go.Proofs.YtbjhkhhbdlnfbaaGreatDoor
open Go.RowKit

def patOk : List (Option Value) → List Value → Bool
  | [], [] => true
  | none :: p, _ :: l => patOk p l
  | some v :: p, u :: l => eqV 3 v u && pureD 3 v && patOk p l
  | _, _ => false
theorem patOk_len : ∀ {p : List (Option Value)} {l : List Value}, patOk p l = true → p.length = l.length
  | [], [], _ => rfl
  | none :: p, _ :: l, h => by rw [patOk] at h; simp [patOk_len h]
  | some v :: p, u :: l, h => by simp only [patOk, Bool.and_eq_true] at h; simp [patOk_len h.2]
  | [], _ :: _, h => by cases h
  | none :: _, [], h => by cases h
  | some _ :: _, [], h => by cases h
theorem patOk_at : ∀ {p : List (Option Value)} {l : List Value}, patOk p l = true → ∀ (j : Nat) v, p[j]? = some (some v) → l[j]? = some v ∧ pureD 3 v = true
  | [], [], _, j, v, h => by simp at h
  | none :: p, _ :: l, h, j, v, hj => by
    rw [patOk] at h
    cases j with
    | zero => simp at hj
    | succ j => simpa using patOk_at h j v (by simpa using hj)
  | some x :: p, u :: l, h, j, v, hj => by
    simp only [patOk, Bool.and_eq_true] at h
    cases j with
    | zero =>
      obtain rfl : x = v := by simpa using hj
      exact ⟨by rw [eqV_eq 3 _ _ h.1.1]; rfl, h.1.2⟩
    | succ j => simpa using patOk_at h.2 j v (by simpa using hj)
  | [], _ :: _, h, _, _, _ => by cases h
  | none :: _, [], h, _, _, _ => by cases h
  | some _ :: _, [], h, _, _, _ => by cases h

def usualV : Array Value := ⟨[.int .u8 (.ofNat 2), .int .u8 (.ofNat 0), .int .u8 (.ofNat 0), .int .u8 (.ofNat 0), .int .u8 (.ofNat 0), .int .u8 (.ofNat 1), .int .u8 (.ofNat 2), .int .u8 (.ofNat 0), .int .u8 (.ofNat 0), .int .u8 (.ofNat 0), .int .u8 (.ofNat 0), .int .u8 (.ofNat 2), .int .u32 (.ofNat 167772161), .int .u32 (.ofNat 167837697), .int .i64 (.ofNat 24), .int .i64 (.ofNat 24), .int .u32 (.ofNat 167772414), .int .i64 (.ofNat 1500), .int .u64 (.ofNat 1), .int .u64 (.ofNat 2), .int .u64 (.ofNat 3), .int .u64 (.ofNat 4), .int .u16 (.ofNat 7000), .int .i64 (.ofNat 13), .int .i64 (.ofNat 8), .int .i64 (.ofNat 8), .int .i64 (.ofNat 64), .int .i64 (.ofNat 8), .int .i64 (.ofNat 8), .int .i64 (.ofNat 100), .int .i64 (.ofNat 2), .int .i64 (.ofNat 3), .int .i64 (.ofNat 5), .int .i64 (.ofNat 30), .int .i64 (.ofNat 4), .int .i64 (.ofNat 10), .int .i64 (.ofNat 3), .int .i64 (.ofNat 2), .int .i64 (.ofNat 2), .int .i64 (.ofNat 2)]⟩
def hostPat : List (Option Value) := [some (.int .u8 (.ofNat 2)), some (.int .u8 (.ofNat 0)), some (.int .u8 (.ofNat 0)), some (.int .u8 (.ofNat 0)), some (.int .u8 (.ofNat 0)), some (.int .u8 (.ofNat 1)), some (.int .u8 (.ofNat 2)), some (.int .u8 (.ofNat 0)), some (.int .u8 (.ofNat 0)), some (.int .u8 (.ofNat 0)), some (.int .u8 (.ofNat 0)), some (.int .u8 (.ofNat 2)), some (.int .u32 (.ofNat 167772161)), some (.int .u32 (.ofNat 167837697)), some (.int .i64 (.ofNat 24)), some (.int .i64 (.ofNat 24)), some (.int .u32 (.ofNat 167772414)), some (.int .i64 (.ofNat 1500)), some (.int .u64 (.ofNat 1)), some (.int .u64 (.ofNat 2)), some (.int .u64 (.ofNat 3)), some (.int .u64 (.ofNat 4)), some (.int .u16 (.ofNat 7000)), some (.int .i64 (.ofNat 13)), some (.int .i64 (.ofNat 8)), some (.int .i64 (.ofNat 8)), some (.int .i64 (.ofNat 64)), some (.int .i64 (.ofNat 8)), some (.int .i64 (.ofNat 8)), some (.int .i64 (.ofNat 100)), some (.int .i64 (.ofNat 2)), some (.int .i64 (.ofNat 3)), some (.int .i64 (.ofNat 5)), some (.int .i64 (.ofNat 30)), some (.int .i64 (.ofNat 4)), some (.int .i64 (.ofNat 10)), some (.int .i64 (.ofNat 3)), some (.int .i64 (.ofNat 2)), some (.int .i64 (.ofNat 2)), some (.int .i64 (.ofNat 2)), none, none, none, none, none, none, some (.slice none 0 0), some (.slice none 0 0), some (.int .u64 (.ofNat 0)), some (.int .u32 (.ofNat 0)), some (.int .u32 (.ofNat 0)), some (.int .u32 (.ofNat 0)), some (.int .u32 (.ofNat 0)), some (.int .u32 (.ofNat 0)), some (.int .u32 (.ofNat 0)), some (.int .u32 (.ofNat 0)), some (.int .u32 (.ofNat 0)), some (.int .u32 (.ofNat 0)), some (.int .u32 (.ofNat 0)), some (.int .u32 (.ofNat 0)), some (.int .u32 (.ofNat 0)), some (.int .u32 (.ofNat 0)), some (.int .u32 (.ofNat 0)), some (.int .u32 (.ofNat 0)), some (.int .u32 (.ofNat 0)), some (.int .u32 (.ofNat 0)), some (.int .u32 (.ofNat 0)), some (.int .u32 (.ofNat 0)), some (.int .u32 (.ofNat 0)), some (.int .u32 (.ofNat 0)), some (.int .u32 (.ofNat 0)), some (.int .u32 (.ofNat 0)), some (.int .u32 (.ofNat 0)), some (.int .u32 (.ofNat 0)), some (.int .u32 (.ofNat 0)), some (.int .u32 (.ofNat 0)), some (.int .u32 (.ofNat 0)), some (.int .u32 (.ofNat 0)), some (.int .u32 (.ofNat 0)), some (.int .u32 (.ofNat 0)), some (.int .u32 (.ofNat 0)), some (.int .u32 (.ofNat 0)), some (.int .u32 (.ofNat 0)), some (.int .u32 (.ofNat 0)), some (.int .u32 (.ofNat 0)), some (.int .u32 (.ofNat 0)), some (.slice none 0 0)]

def makesObj (P : Program) (memo : Callee1) (steps d : Nat) (f : FuncId) (args : Array Value) (T : TypeId) (pat : List (Option Value)) : Bool := match evalMem P memo steps d f args am0 with
  | some (.tuple ⟨[.pointer (some ⟨b, 0, none⟩), .int .i64 (.ofNat 0)]⟩, m) => match m.get b with
    | some (.cells c el (0, 0)) => Nat.beq el T && patOk pat c.toList
    | _ => false
  | _ => false
theorem makes_obj {P : Program} (hz : zerosOk P = true) (hc : callsOk P = true) (hm : P.follows .mixedOrders = true) {memo : Callee1} (ho : CallOk P (fun _ => True) memo) (steps d : Nat) (f : FuncId) (args : Array Value) (T : TypeId) (pat : List (Option Value))
    (ha : args.toList.all (pureD 5) = true) (h : makesObj P memo steps d f args T pat = true) (w : World) :
    Calls P f args w fun e w' => ∃ b c, e = .returned (.tuple #[.pointer (some ⟨b, 0, none⟩), .int .i64 0]) ∧ V.Under w.heap.size w w' ∧ w.heap.size ≤ b ∧ w'.heap[b]? = some (.cells c T (0, 0)) ∧ c.size = pat.length ∧ ∀ (j : Nat) v, pat[j]? = some (some v) → c[j]? = some v := by
  unfold makesObj at h
  split at h
  · rename_i b m hv
    split at h
    · rename_i c el hg
      simp only [Bool.and_eq_true] at h
      obtain ⟨h1, h2⟩ := h
      obtain rfl := Nat.eq_of_beq_eq_true h1
      refine (evalMem_sound hz hc hm ho steps d f args am0 _ m hv ⟨w, fun _ => False⟩ ⟨fun _ => none, fun _ => .bool false, fun _ => rfl⟩ w args trivial (am0_rel (fun _ => .bool false) (fun _ => rfl) w) ⟨rfl, fun i v v' hv hv' => relVs_pure (pure_rel 5) ha i v v' hv hv'⟩).mono fun e w' hh => ?_
      obtain ⟨σ', v', rfl, _, g2, g3⟩ := hh
      obtain ⟨en, o', q1, q2, q3⟩ := g2.obj b _ hg
      cases q3 with
      | cells _ hsz hf hcell h0 h9 =>
        rename_i c' f'
        obtain ⟨h3, h4, rfl⟩ := h0 rfl
        have hb := (g2.ent b en q1).2.2.1
        have hmine : w.heap.size ≤ en.blk := hb.elim (fun h => h.elim) fun h => h
        cases g3 with
        | tuple hs hr =>
          rename_i t'
          have hlen : t'.size = 2 := hs.symm
          have r0 := hr 0 _ t'[0] rfl (Array.getElem?_eq_getElem (by omega))
          have r1 := hr 1 _ t'[1] rfl (Array.getElem?_eq_getElem (by omega))
          have e1 : t'[1] = .int .i64 0 := pure_eq 3 _ _ rfl r1
          have e0 : t'[0] = .pointer (some ⟨en.blk, 0, none⟩) := by
            cases hq : t'[0] with
            | _ => first
              | (rw [hq] at r0; cases r0; done)
              | (rw [hq] at r0
                 cases r0
                 rename_i en2 hen
                 rw [q1] at hen; injection hen with hen; subst hen
                 rw [h4])
          refine ⟨en.blk, c', ?_, ⟨⟨g2.below.os, g2.below.tape, g2.below.output, g2.below.size, fun k hk => g2.below.block k hk (fun h => h)⟩, g2.below.drawn⟩, hmine, q2, by rw [h3, patOk_len h2]; simp, fun j v hj => ?_⟩
          · congr 1
            congr 1
            apply Array.ext hlen
            intro i hi1 hi2
            rcases (by have : i < 2 := hi2; omega : i = 0 ∨ i = 1) with rfl | rfl
            · exact e0
            · exact e1
          · obtain ⟨k1, k2⟩ := patOk_at h2 j v hj
            obtain ⟨u, k3, k4⟩ := hcell j v (by simpa using k1)
            rw [pure_eq 3 _ _ k2 k4, h4] at k3
            exact k3
    · cases h
  · cases h
theorem newRuns : makesObj Tryz.prog noMemo 100000 60 42 #[.agg usualV] 130 hostPat = true := by kernel_rfl
end Go.Proofs.YtbjhkhhbdlnfbaaGreatDoor

namespace Go.Proofs.YtbjhkhhbdlnfbaaGreatDoor.V
open Go.RowKit
def usualD : List D := [.v (.int .u8 (.ofNat 2)), .v (.int .u8 (.ofNat 0)), .v (.int .u8 (.ofNat 0)), .v (.int .u8 (.ofNat 0)), .v (.int .u8 (.ofNat 0)), .v (.int .u8 (.ofNat 1)), .v (.int .u8 (.ofNat 2)), .v (.int .u8 (.ofNat 0)), .v (.int .u8 (.ofNat 0)), .v (.int .u8 (.ofNat 0)), .v (.int .u8 (.ofNat 0)), .v (.int .u8 (.ofNat 2)), .v (.int .u32 (.ofNat 167772161)), .v (.int .u32 (.ofNat 167837697)), .v (.int .i64 (.ofNat 24)), .v (.int .i64 (.ofNat 24)), .v (.int .u32 (.ofNat 167772414)), .v (.int .i64 (.ofNat 1500)), .v (.int .u64 (.ofNat 1)), .v (.int .u64 (.ofNat 2)), .v (.int .u64 (.ofNat 3)), .v (.int .u64 (.ofNat 4)), .v (.int .u16 (.ofNat 7000)), .v (.int .i64 (.ofNat 13)), .v (.int .i64 (.ofNat 8)), .v (.int .i64 (.ofNat 8)), .v (.int .i64 (.ofNat 64)), .v (.int .i64 (.ofNat 8)), .v (.int .i64 (.ofNat 8)), .v (.int .i64 (.ofNat 100)), .v (.int .i64 (.ofNat 2)), .v (.int .i64 (.ofNat 3)), .v (.int .i64 (.ofNat 5)), .v (.int .i64 (.ofNat 30)), .v (.int .i64 (.ofNat 4)), .v (.int .i64 (.ofNat 10)), .v (.int .i64 (.ofNat 3)), .v (.int .i64 (.ofNat 2)), .v (.int .i64 (.ofNat 2)), .v (.int .i64 (.ofNat 2))]
def hostD : List D := [.v (.int .u8 (.ofNat 2)), .v (.int .u8 (.ofNat 0)), .v (.int .u8 (.ofNat 0)), .v (.int .u8 (.ofNat 0)), .v (.int .u8 (.ofNat 0)), .v (.int .u8 (.ofNat 1)), .v (.int .u8 (.ofNat 2)), .v (.int .u8 (.ofNat 0)), .v (.int .u8 (.ofNat 0)), .v (.int .u8 (.ofNat 0)), .v (.int .u8 (.ofNat 0)), .v (.int .u8 (.ofNat 2)), .v (.int .u32 (.ofNat 167772161)), .v (.int .u32 (.ofNat 167837697)), .v (.int .i64 (.ofNat 24)), .v (.int .i64 (.ofNat 24)), .v (.int .u32 (.ofNat 167772414)), .v (.int .i64 (.ofNat 1500)), .v (.int .u64 (.ofNat 1)), .v (.int .u64 (.ofNat 2)), .v (.int .u64 (.ofNat 3)), .v (.int .u64 (.ofNat 4)), .v (.int .u16 (.ofNat 7000)), .v (.int .i64 (.ofNat 13)), .v (.int .i64 (.ofNat 8)), .v (.int .i64 (.ofNat 8)), .v (.int .i64 (.ofNat 64)), .v (.int .i64 (.ofNat 8)), .v (.int .i64 (.ofNat 8)), .v (.int .i64 (.ofNat 100)), .v (.int .i64 (.ofNat 2)), .v (.int .i64 (.ofNat 3)), .v (.int .i64 (.ofNat 5)), .v (.int .i64 (.ofNat 30)), .v (.int .i64 (.ofNat 4)), .v (.int .i64 (.ofNat 10)), .v (.int .i64 (.ofNat 3)), .v (.int .i64 (.ofNat 2)), .v (.int .i64 (.ofNat 2)), .v (.int .i64 (.ofNat 2)), .junk, .junk, .junk, .junk, .junk, .junk, .v (.slice none 0 0), .v (.slice none 0 0), .v (.int .u64 (.ofNat 0)), .v (.int .u32 (.ofNat 0)), .v (.int .u32 (.ofNat 0)), .v (.int .u32 (.ofNat 0)), .v (.int .u32 (.ofNat 0)), .v (.int .u32 (.ofNat 0)), .v (.int .u32 (.ofNat 0)), .v (.int .u32 (.ofNat 0)), .v (.int .u32 (.ofNat 0)), .v (.int .u32 (.ofNat 0)), .v (.int .u32 (.ofNat 0)), .v (.int .u32 (.ofNat 0)), .v (.int .u32 (.ofNat 0)), .v (.int .u32 (.ofNat 0)), .v (.int .u32 (.ofNat 0)), .v (.int .u32 (.ofNat 0)), .v (.int .u32 (.ofNat 0)), .v (.int .u32 (.ofNat 0)), .v (.int .u32 (.ofNat 0)), .v (.int .u32 (.ofNat 0)), .v (.int .u32 (.ofNat 0)), .v (.int .u32 (.ofNat 0)), .v (.int .u32 (.ofNat 0)), .v (.int .u32 (.ofNat 0)), .v (.int .u32 (.ofNat 0)), .v (.int .u32 (.ofNat 0)), .v (.int .u32 (.ofNat 0)), .v (.int .u32 (.ofNat 0)), .v (.int .u32 (.ofNat 0)), .v (.int .u32 (.ofNat 0)), .v (.int .u32 (.ofNat 0)), .v (.int .u32 (.ofNat 0)), .v (.int .u32 (.ofNat 0)), .v (.int .u32 (.ofNat 0)), .v (.int .u32 (.ofNat 0)), .v (.int .u32 (.ofNat 0)), .v (.int .u32 (.ofNat 0)), .v (.int .u32 (.ofNat 0)), .v (.slice none 0 0)]
theorem usual_rep {C : Ctx} {v : Value} (h : Rep C (.agg usualD) v) : v = .agg usualV := by
  cases h with
  | agg hs hr =>
    rename_i c
    congr 1
    apply Array.ext hs
    intro i hi1 hi2
    have hd : usualD[i]? = some (.v usualV[i]) := by
      have e : usualD = usualV.toList.map D.v := rfl
      rw [e, List.getElem?_map]
      have : usualV.toList[i]? = some usualV[i] := by rw [Array.getElem?_toList]; exact Array.getElem?_eq_getElem hi2
      rw [this]; rfl
    have := hr i _ c[i] hd (Array.getElem?_eq_getElem hi1)
    generalize c[i] = x at *
    generalize usualV[i] = y at *
    cases this
    rfl
theorem hostD_eq : hostD = hostPat.map fun | none => D.junk | some v => D.v v := rfl

set_option maxRecDepth 100000 in
theorem new_vc {F : List (Nat × D)} {H : List (Nat × LO)} {nx : Nat} {G : List Nat × Nat} {g : Bool} {K : D → St → Prop} (h : K (.tup [.loc nx 0, .v (.int .i64 0)]) ⟨F, (nx, .cells 130 hostD) :: H, nx + 1, G⟩) : CallVC Tryz.prog g 42 [.agg usualD] ⟨F, H, nx, G⟩ K := by
  generalize hs0 : (⟨F, H, nx, G⟩ : St) = s
  replace h : K (.tup [.loc s.nx 0, .v (.int .i64 0)]) ⟨s.F, (s.nx, .cells 130 hostD) :: s.H, s.nx + 1, s.G⟩ := by rw [← hs0]; exact h
  clear hs0
  refine ⟨⟨_, Tryz.func42, rfl⟩, fun E σ τ a w args' hs hr => ?_⟩
  have harg : args'.toArray = #[.agg usualV] := by
    match args', hr with
    | [v], hr => rw [usual_rep (hr.2 0 _ v rfl rfl)]
    | [], hr => have := hr.1; simp at this
    | _ :: _ :: _, hr => have := hr.1; simp at this
  rw [harg]
  refine (makes_obj law_zeros law_calls law_mixed noMemo_ok 100000 60 _ _ _ _ (by decide) newRuns w).mono fun e w' hh => ?_
  obtain ⟨b, c, rfl, hu, hb, hw, hsz, hcell⟩ := hh
  have h2 : HR (freshEnv E s σ τ w 1) [(s.nx, .cells 130 hostD)] (s.nx + 1) (setN σ s.nx b) τ w' := by
    have own : ∀ id k, owned [(s.nx, .cells 130 hostD)] (setN σ s.nx b) τ id k → id = s.nx := by
      intro id k ho
      by_cases hid : id = s.nx
      · exact hid
      · rcases ho with ⟨el', l', h1, _⟩ | ⟨α, el', e, enc, L, h1, _⟩ | ⟨o, h1, _⟩ <;> (rw [lget_ne _ _ hid] at h1; cases h1)
    refine ⟨⟨hu.os, hu.tape, hu.output, hu.size, fun k hk _ => hu.block k hk, hu.drawn⟩, fun k hk => ⟨fun h => h, hk.2.1⟩, fun id el l hl => ?_, fun id α el e enc L hl => ?_, fun i j k h1 h2 => (own i k h1).trans (own j k h2).symm, fun id o hl => ?_, hs.heap.slices, fun id o hl => ?_⟩
    · by_cases hid : id = s.nx
      · subst hid
        rw [lget_same] at hl
        injection hl with hl; injection hl with h1 h3; subst h1 h3
        refine ⟨.inr (by simp only [setN, if_true]; exact hb), c, by simp only [setN, if_true]; exact hw, by rw [hsz, hostD_eq, List.length_map], fun j d u hd hu => ?_⟩
        rw [hostD_eq, List.getElem?_map] at hd
        cases hq : hostPat[j]? with
        | none => rw [hq] at hd; cases hd
        | some x =>
          rw [hq] at hd
          simp only [Option.map_some, Option.some.injEq] at hd
          subst hd
          cases x with
          | none => exact .junk
          | some v =>
            have := hcell j v hq
            rw [hu] at this
            injection this with this; subst this
            exact .v
      · rw [lget_ne _ _ hid] at hl; cases hl
    · by_cases hid : id = s.nx
      · subst hid; rw [lget_same] at hl; cases hl
      · rw [lget_ne _ _ hid] at hl; cases hl
    · by_cases hid : id = s.nx
      · subst hid; exact Nat.lt_succ_self _
      · rw [lget_ne _ _ hid] at hl; cases hl
    · by_cases hid : id = s.nx
      · subst hid; rw [lget_same] at hl; cases hl
      · rw [lget_ne _ _ hid] at hl; cases hl
  have hge : idsGe s.nx [(s.nx, .cells 130 hostD)] = true := by
    simp only [idsGe, loGe, Bool.and_true, Bool.and_eq_true]
    exact ⟨Nat.ble_eq_true_of_le (Nat.le_refl _), rfl⟩
  obtain ⟨hbel, σ2, τ2, h6, h7⟩ := merge_state hs h2 hge (Nat.le_succ _)
  refine ⟨_, _, σ2, τ2, _, h, rfl, h6, ?_, fun _ => hbel⟩
  refine h7 _ _ ?_ ?_
  · simp only [geOk, List.all_cons, List.all_nil, Bool.and_true, Bool.and_eq_true]
    exact Nat.ble_eq_true_of_le (Nat.le_refl _)
  · refine .tup rfl fun j d u hd hu => ?_
    match j, hd, hu with
    | 0, hd, hu =>
      obtain rfl : _ = d := by simpa using hd
      obtain rfl : _ = u := by simpa using hu
      exact .loc ⟨Nat.lt_succ_self _, by simp [setN]⟩
    | 1, hd, hu =>
      obtain rfl : _ = d := by simpa using hd
      obtain rfl : _ = u := by simpa using hu
      exact .v
    | j + 2, hd, hu => simp at hd
end Go.Proofs.YtbjhkhhbdlnfbaaGreatDoor.V
