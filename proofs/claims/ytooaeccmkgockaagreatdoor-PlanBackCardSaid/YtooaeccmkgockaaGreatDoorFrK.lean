/-
  Which farms may be: the contracts of the walks, by value. Conditions: short rows, numbers of their types.
-/
import Derived.Test.YtooaeccmkgockaaGreatDoorK2
import Derived.Test.YtooaeccmkgockaaGreatDoorK5
import Derived.Test.YtooaeccmkgockaaGreatDoorVdr
namespace Go.Proofs.YtooaeccmkgockaaGreatDoor.V
open Go.RowKit

theorem rowsAt_of {α β : Type} {k : Nat} {enc : α → List D} (f : α → β) (encV : β → List Value) (henc : ∀ x, enc x = (encV (f x)).map .v) {w : World} {B : Nat → Prop} {L : List α} {u : Value} (h : Rep (baseCtx w B) (.rows α k enc L) u) :
    ∃ p c, u = .slice p (L.map f).length c ∧ (L.map f).length ≤ c ∧ RowsAt w encV k p (L.map f) := by
  cases h with
  | rows b o g hc hp hl hcell hrep =>
    refine ⟨_, _, by rw [List.length_map], by rw [List.length_map]; exact hc, fun i x hx => ?_⟩
    rw [List.getElem?_map] at hx
    cases hq : L[i]? with
    | none => rw [hq] at hx; cases hx
    | some y =>
      rw [hq] at hx
      simp only [Option.map_some, Option.some.injEq] at hx
      subst hx
      obtain ⟨h1, _⟩ := hp (fun he => by rw [he] at hq; simp at hq)
      refine ⟨b, o, h1, fun j c hj => ?_⟩
      have hd : (enc y)[j]? = some (.v c) := by rw [henc, List.getElem?_map, hj]; rfl
      have h2 := hcell i y j _ hq hd
      rw [← rep_v (hrep i y j _ hq hd)]
      exact h2

def tupV (v : Vip) : VipD := (v.id, v.addr, v.port, v.proto, v.mode)
def tupB (b : Back) : BackD := (b.id, b.vip, b.addr, b.weight, b.life, b.up)
open Classical in
noncomputable def mayB (V : List Vip) (B : List Back) : Bool := decide (farmMay (V.map tupV) (B.map tupB))

theorem fn_of_ans {f : FuncId} (hb : hasBody Tryz.prog f) {V : List Vip} {B : List Back} (hV : V.length ≤ 100) (hB : B.length ≤ 100) (wV : ∀ v ∈ V, v.ok) (wB : ∀ b ∈ B, b.ok)
    (h : ∀ (pv pb : Option Addr) (cv cb : Nat) (w : World), (V.map tupV).length ≤ cv → (B.map tupB).length ≤ cb → RowsAt w vipV 5 pv (V.map tupV) → RowsAt w backV 6 pb (B.map tupB) →
      Calls Tryz.prog f #[.agg #[.slice pv (V.map tupV).length cv, .slice pb (B.map tupB).length cb]] w (AnsB w (farmMay (V.map tupV) (B.map tupB)))) : Fn Tryz.prog f [farmD V B] fun d => d = boolD (mayB V B) := by
  refine ⟨hb, fun w Bk vs _ hr => ?_⟩
  obtain ⟨hlen, hrep⟩ := hr
  obtain ⟨u, rfl⟩ := List.length_eq_one_iff.1 hlen
  have h0 := hrep 0 _ u rfl rfl
  have hagg : ∃ c : Array Value, u = .agg c ∧ c.size = 2 ∧ ∀ (j : Nat) d u, [rowsV V, rowsB B][j]? = some d → c[j]? = some u → Rep (baseCtx w Bk) d u := by
    cases h0 with
    | agg hs hh => exact ⟨_, rfl, hs, hh⟩
  clear h0 hrep hlen
  obtain ⟨c, rfl, hs, hh⟩ := hagg
  · · -- the cells
      have hc2 : c.size = 2 := hs
      obtain ⟨pv, cv, e1, h1, h2⟩ := rowsAt_of tupV vipV (fun _ => rfl) (hh 0 _ c[0] rfl (by simp [hc2]))
      obtain ⟨pb, cb, e2, h3, h4⟩ := rowsAt_of tupB backV (fun _ => rfl) (hh 1 _ c[1] rfl (by simp [hc2]))
      have hc : c = #[.slice pv (V.map tupV).length cv, .slice pb (B.map tupB).length cb] := by
        apply Array.ext (by simp [hc2])
        intro i hi1 hi2
        match i, hi1 with
        | 0, _ => exact e1
        | 1, _ => exact e2
        | n + 2, hi1 => omega
      subst hc
      refine (calls_drawn (h pv pb cv cb w h1 h3 h2 h4)).mono fun e w' hh => ?_
      obtain ⟨⟨r, rfl, hiff, hbel⟩, hdr⟩ := hh
      refine ⟨_, _, rfl, rfl, ⟨hbel, hdr ⟨_, rfl⟩⟩, ?_⟩
      have : mayB V B = r := by
        unfold mayB
        cases r with
        | true => simp only [hiff.1 rfl, decide_true]
        | false =>
          have hno : ¬ farmMay (V.map tupV) (B.map tupB) := fun hm => by cases hiff.2 hm
          simp only [hno, decide_false]
      rw [this]
      exact .v

theorem okV {V : List Vip} (wV : ∀ v ∈ V, v.ok) : ∀ v ∈ V.map tupV, vipW v := fun v hv => by
  obtain ⟨x, hx, rfl⟩ := List.mem_map.1 hv
  have := wV x hx
  exact ⟨this.addr.1, this.addr.2, this.port.1, this.port.2, this.proto.1, this.proto.2⟩
theorem okB {B : List Back} (wB : ∀ b ∈ B, b.ok) : ∀ b ∈ B.map tupB, backW b := fun v hv => by
  obtain ⟨x, hx, rfl⟩ := List.mem_map.1 hv
  exact (wB x hx).addr

theorem right_fn (V : List Vip) (B : List Back) (hV : V.length ≤ 100) (hB : B.length ≤ 100) (wV : ∀ v ∈ V, v.ok) (wB : ∀ b ∈ B, b.ok) : Fn Tryz.prog 45 [farmD V B] fun d => d = boolD (mayB V B) :=
  fn_of_ans ⟨_, Tryz.func45, rfl⟩ hV hB wV wB fun pv pb cv cb w h1 h2 h3 h4 => right_any pv pb cv cb _ _ w (by simpa using hV) (by simpa using hB) h1 h2 h3 h4 (okV wV) (okB wB)
theorem rright_fn (V : List Vip) (B : List Back) (hV : V.length ≤ 100) (hB : B.length ≤ 100) (wV : ∀ v ∈ V, v.ok) (wB : ∀ b ∈ B, b.ok) : Fn Tryz.prog 48 [farmD V B] fun d => d = boolD (mayB V B) :=
  fn_of_ans ⟨_, Tryz.func48, rfl⟩ hV hB wV wB fun pv pb cv cb w h1 h2 h3 h4 => rright_any pv pb cv cb _ _ w (by simpa using hV) (by simpa using hB) h1 h2 h3 h4 (okV wV) (okB wB)
end Go.Proofs.YtooaeccmkgockaaGreatDoor.V
