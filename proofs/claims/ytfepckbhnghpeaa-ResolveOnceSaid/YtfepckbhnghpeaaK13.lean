/-
  What the document's cache is in memory, as an arena; its readers. No condition.
  The document's cache as a cluster; put and drop inside its other functions. Conditions: rows not too long. (Printed by gen_dqb.py.)
  A call that makes an arena out of none, in any region. No condition.
  CacheDoes, in plain words: what holds of all that is known, whatever is done; what is found. No condition.
-/
import Derived.Test.YtfepckbhnghpeaaCuK
import Derived.Test.YtfepckbhnghpeaaK1
import Derived.Test.YtfepckbhnghpeaaK2
import Derived.Test.YtfepckbhnghpeaaCqK
namespace Go.Proofs.Ytfepckbhnghpeaa.V
open Go.RowKit
attribute [local irreducible] Fn FnN ArC FnR ArL

theorem still_le (C : Ctx) : C.still.Le C := ⟨fun _ _ _ h => h, fun _ h => h, fun _ _ _ h => h.elim, fun _ _ h => h.elim, fun _ _ _ h => h.elim⟩
def macT (T : List Pl) (k : Int × Int) : D := match findT T k with
  | some x => match x.known with
    | true => .tup [macD x.mac, boolD true]
    | false => .tup [macD mac0, boolD false]
  | none => .tup [macD mac0, boolD false]
end Go.Proofs.Ytfepckbhnghpeaa.V
namespace Go.Proofs.Ytfepckbhnghpeaa.V
open Go.RowKit
attribute [local irreducible] Fn FnN OpVC ArC FnR ArL Ob ObS NewS

/-! ### In its place -/
theorem dleLitQ {α : Type} {e : Nat} {enc : α → List D} {L : List α} (hf : ∀ y d, d ∈ enc y → cutOk 6 0 d = true) : DLe (.lit e (L.map enc)) (.rows α e enc L) := fun C v h => by
  cases h with
  | lit b o g hc hp hl hcell hrep =>
    rw [List.length_map] at hc
    have hget : ∀ (i : Nat) x, L[i]? = some x → (L.map enc)[i]? = some (enc x) := fun i x hx => by rw [List.getElem?_map, hx]; rfl
    rw [List.length_map]
    refine .rows b o g (Nat.le_of_eq hc) (fun hn => hp (by simpa using hn)) (fun i x hx => hl i _ (hget i x hx)) (fun i x j d hx hd => hcell i _ j d (hget i x hx) hd) (fun i x j d hx hd => cut_still (hf x d (List.mem_of_getElem? hd)) (hrep i _ j d (hget i x hx) hd))
end Go.Proofs.Ytfepckbhnghpeaa.V
namespace Go.Proofs.Ytfepckbhnghpeaa.V
open Go.RowKit

section
variable {P : Program} {tt : TT} {s : St} {f : FuncId} {args : List D} {K : D → St → Prop}
theorem CallVC.arN {g : Bool} {i : Nat} {S : Nat → Prop} {M : Ar} {Q : D → Ar → Prop} (hf : ArC P f args M Q) (hid : lget s.H i = some (V.arL S M)) (hcut : args.all (cutOk 6 0) = true) (hg : ∀ k, M k = none)
    (h : ∀ d M' S', Q d M' → K d ⟨s.F, (i, V.arL S' M') :: s.H, s.nx, s.G⟩) : CallVC P g f args s K := by
  refine ⟨hf.1, fun E σ τ a w args' hs hr => ?_⟩
  have hSM := (hs.heap.obj i _ hid).2.1
  have hr' : reps (baseCtx w (ctxOf E s.H s.nx σ τ w).ok) args args' := ⟨hr.1, fun j d u hd hu => cut_still (all_at hcut hd) (hr.2 j d u hd hu)⟩
  refine (hf.2 w _ args' (fun k hk => ⟨hk.2.1, ?_⟩) (fun k x hx => ar_at hs hid hx) hr').mono fun e w' hh => ?_
  · cases hq : M k with
    | none => rfl
    | some x => exact absurd ((owned_ar hid).2 ((hSM k).2 ⟨x, hq⟩)) (hk.2.2 i)
  obtain ⟨d, v, M', hq, rfl, ht, hM', hd⟩ := hh
  have hnone : ∀ k, ¬ S k → M k = none := fun k hk => by
    cases hq : M k with
    | none => rfl
    | some x => exact absurd ((hSM k).2 ⟨x, hq⟩) hk
  have hH : ∀ id, id ≠ i → lget ((i, V.arL (fun k => ∃ x, M' k = some x) M') :: s.H) id = lget s.H id := fun id hne => lget_ne _ _ hne
  have hle : (baseCtx w' (newA (ctxOf E s.H s.nx σ τ w).ok M M' w w')).Le (ctxOf E ((i, V.arL (fun k => ∃ x, M' k = some x) M') :: s.H) s.nx σ τ w') := by
    refine ⟨fun _ _ _ h => h, fun k hk => ?_, fun _ _ _ h => h.elim, fun _ _ h => h.elim, fun _ _ _ h => h.elim⟩
    obtain ⟨h1, h2, h3⟩ := hk
    have hi : ¬ owned ((i, V.arL (fun k => ∃ x, M' k = some x) M') :: s.H) σ τ i k := fun ho => by
      obtain ⟨x, hx⟩ := (owned_ar (lget_same _ _ _)).1 ho
      rw [h2] at hx; cases hx
    rcases h1 with h1 | h1 | h1
    · refine ⟨h1.1, h3, fun id ho => ?_⟩
      by_cases hne : id = i
      · subst hne; exact hi ho
      · exact h1.2.2 id (owned_of (hH id hne) ho)
    · have hSk := (hSM k).2 h1
      refine ⟨.inr ((hs.heap.obj i _ hid).1 k hSk).1, h3, fun id ho => ?_⟩
      by_cases hne : id = i
      · subst hne; exact hi ho
      · exact hne (hs.heap.apart id i k (owned_of (hH id hne) ho) ((owned_ar hid).2 hSk))
    · refine ⟨.inr (.inr (Nat.le_trans hs.heap.kept.size h1)), h3, fun id ho => ?_⟩
      by_cases hne : id = i
      · subst hne; exact hi ho
      · have := owned_lt hs.heap (owned_of (hH id hne) ho); omega
  obtain ⟨r1, r2⟩ := ar_state hs hid ht.os ht.tape ht.output ht.size ht.drawn (H' := (i, V.arL (fun k => ∃ x, M' k = some x) M') :: s.H) (lget_same _ _ _) (fun id hne => .inl (hH id hne)) (fun k hk hS => ht.block k hk (hnone k hS))
    (fun k hk => by
      obtain ⟨x, hx⟩ := hk
      obtain ⟨h1, h2⟩ := hM' k x hx
      refine ⟨It.lt h2, ?_⟩
      rcases h1 with h1 | h1
      · exact .inl ((hSM k).2 h1)
      · exact .inr (.inl h1))
    (fun _ => ⟨fun _ => Iff.rfl, fun k x hx => It.at_le (hM' k x hx).2 (fun _ h => h) ⟨fun _ _ _ h => h, hle.ok, fun _ _ _ h => h.elim, fun _ _ h => h.elim, fun _ _ _ h => h.elim⟩⟩)
  refine ⟨d, ⟨s.F, (i, V.arL (fun k => ∃ x, M' k = some x) M') :: s.H, s.nx, s.G⟩, σ, τ, v, h d M' _ hq, rfl, r1, hd.mono hle, fun hgt => ⟨ht.os, ht.tape, ht.output, ht.size, fun k hk => ?_⟩⟩
  exact ht.block k hk (hg k)
end
end Go.Proofs.Ytfepckbhnghpeaa.V
namespace Go.Proofs.Ytfepckbhnghpeaa.V
open Go.RowKit
attribute [local irreducible] Fn FnN OpVC ArC FnR ArL Ob ObS NewS

theorem learn_waits_le {c : Nat → Int} {now : Int} {T : List Pl} (hs : SortT T) (k : Int × Int) (m : Nat → Int) (add : Bool) : waitsT (learnT c now T k m add).2 ≤ waitsT T ∧ (learnT c now T k m add).1.1.length ≤ waitsT T := by
  have := learn_waits (c := c) (now := now) hs k m add
  omega
end Go.Proofs.Ytfepckbhnghpeaa.V
