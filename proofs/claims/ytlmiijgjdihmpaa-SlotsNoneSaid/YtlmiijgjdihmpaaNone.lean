/-
  The law SlotsNone of layer 22: the given statement, proved. No condition.
-/
import Derived.Test.YtlmiijgjdihmpaaCeL
import Derived.Test.YtlmiijgjdihmpaaRow
import Derived.LoopTactic
import Derived.Handy
namespace Go.Proofs.Ytlmiijgjdihmpaa
open Go.ChangeShapes Go.WideShapes Go.ChangeAt Go.RowKit

theorem slots_lives (w : World) : Calls Try.prog 16 #[] w fun e w' => e = .returned (.bool true) ∧ Below w.heap.size w w' :=
  lives_of (steps := 100000) (d := 60) (by kernel_rfl) w

def clamp (v : Int) : Int := if v < -5 then -5 else if 0 < v then 0 else v

theorem in_small (v : Int) (w : World) : Calls Try.prog 22 #[.int .i64 v, .int .i64 (-5), .int .i64 0] w fun e w' => e = .returned (.int .i64 (clamp v)) ∧ w = w' := by
  go_enter Try.func22, Try.ntmps22
  go_wp2
  all_goals
    go_ret
    refine ⟨ret_int ?_, rfl⟩
    unfold clamp
    first
      | (split <;> first | rfl | omega)
      | grind

/-- What In answers of the sixth stand-in. -/
def askIn (f : FuncId) (c : Int) : Oracle := fun g args => bif Nat.beq g f then (match args with
  | ⟨[.float .f64 5, .int .i64 (-5), .int .i64 0]⟩ => some (.int .i64 c)
  | _ => none) else none

theorem askIn_ok (v : Int) : OracleOk Try.prog (fun env => env 5 = .int .i64 v) (askIn 22 (clamp v)) := by
  intro g args u hu σ w args' hT hr
  unfold askIn at hu
  cases hc : Nat.beq g 22 with
  | false => rw [hc] at hu; cases hu
  | true =>
    rw [hc] at hu
    simp only [cond_true] at hu
    split at hu
    · injection hu with hu; subst hu
      have hg : g = 22 := Nat.eq_of_beq_eq_true hc
      subst hg
      obtain ⟨l⟩ := args'
      have hl : l.length = 3 := by have := hr.size; simpa using this.symm
      match l, hl with
      | [a, b, d], _ =>
        have h0 := hr.each 0 _ a rfl rfl
        have h1 := hr.each 1 _ b rfl rfl
        have h2 := hr.each 2 _ d rfl rfl
        cases h1
        cases h2
        cases h0
        rw [hT]
        exact (in_small v w).mono fun e w' ⟨h3, h4⟩ => ⟨_, h3, h4 ▸ Below.refl _ _, .int _ _⟩
    · cases hu

def noneOracle (fIn fLives : FuncId) (c : Int) : Oracle := orElse (askIn fIn c) (askLives fLives)

/-- The law runs so. -/
def runsFor (P : Program) (fIn fLives fLaw : FuncId) (args : Array Value) (c : Int) : Prop := asksTrue P (noneOracle fIn fLives c) 100000 60 fLaw args = true
theorem runs0 : runsFor Try.prog 22 16 5 (tokenArgs Try.prog Try.f5.params.toList 0).toArray (-5) := by
  unfold runsFor
  kernel_rfl
theorem runs1 : runsFor Try.prog 22 16 5 (tokenArgs Try.prog Try.f5.params.toList 0).toArray (-4) := by
  unfold runsFor
  kernel_rfl
theorem runs2 : runsFor Try.prog 22 16 5 (tokenArgs Try.prog Try.f5.params.toList 0).toArray (-3) := by
  unfold runsFor
  kernel_rfl
theorem runs3 : runsFor Try.prog 22 16 5 (tokenArgs Try.prog Try.f5.params.toList 0).toArray (-2) := by
  unfold runsFor
  kernel_rfl
theorem runs4 : runsFor Try.prog 22 16 5 (tokenArgs Try.prog Try.f5.params.toList 0).toArray (-1) := by
  unfold runsFor
  kernel_rfl
theorem runs5 : runsFor Try.prog 22 16 5 (tokenArgs Try.prog Try.f5.params.toList 0).toArray (0) := by
  unfold runsFor
  kernel_rfl
theorem none_runs (c : Int) (h0 : -5 ≤ c) (h1 : c ≤ 0) : runsFor Try.prog 22 16 5 (tokenArgs Try.prog Try.f5.params.toList 0).toArray c := by
  have key : ∀ R : Int → Prop, R (-5) → R (-4) → R (-3) → R (-2) → R (-1) → R 0 → R c := by
    intro R r0 r1 r2 r3 r4 r5
    have : c = -5 ∨ c = -4 ∨ c = -3 ∨ c = -2 ∨ c = -1 ∨ c = 0 := by omega
    rcases this with rfl | rfl | rfl | rfl | rfl | rfl <;> assumption
  exact key _ runs0 runs1 runs2 runs3 runs4 runs5

set_option maxRecDepth 100000 in
theorem none_walk {H : Type} (enc : TypeId × Value → H) (W : World) (base : Nat) (args : Array Value) (ds : List (DataW H)) (p : List MemPlace)
    (hval : ∀ (j : Nat) t v, Try.f5.params[j]? = some t → args[j]? = some v → Value.okWide Try.prog W .any base t v)
    (hA : DataW.TrodAll enc Try.prog W 0 (fun _ => true) true Try.f5.params.toList args.toList ds p) :
    Calls Try.prog 5 args W fun e W' => e = .returned (.bool true) ∧ Below W.heap.size W W' := by
  have hval0 := hval
  have hA0 := hA
  rw [Try.params5] at hA hval
  obtain ⟨v0, v1, d0, d1, p0, p1, rfl, rfl, rfl, h0, h1⟩ := trodAll_two hA
  obtain ⟨cs, rfl, hn⟩ := okWide_struct Try.underlying29 (hval 0 29 v0 rfl rfl)
  obtain ⟨x, rfl, rfl, rfl, wx⟩ := open_int Try.underlying3 (hval 1 3 v1 rfl rfl) h1
  have hn5 : cs.size = 5 := hn.trans (by kernel_rfl)
  have hc : -5 ≤ clamp x ∧ clamp x ≤ 0 := by unfold clamp; split <;> (try split) <;> omega
  refine ask_walk (T := fun env => env 5 = .int .i64 x) (orElse_ok (askIn_ok x) (askLives_ok slots_lives)) (none_runs (clamp x) hc.1 hc.2) enc W base _ _ _ hval0 hA0 ?_
  refine envOf_at ?_ rfl
  simp [flatOf, Value.cells, hn5]

set_option maxRecDepth 100000 in
theorem slotsNone_lifted (os : Os) (started : os.Started) (H : Type) (enc : TypeId × Value → H) :
    ReturnsInHanded {} Try.checked os 5 .any (Rows.slotsNoneSpec.pre6 enc Try.prog Try.f5 [] false) (Rows.slotsNoneSpec.post enc Try.prog Try.f5 false true false false) :=
  law_lifted Try.func5 (by kernel_rfl) rfl rfl Try.underlying4 (by kernel_rfl) os started H enc
    (fun ds hds => by match ds, hds with | [_, _], _ => exact ⟨rfl, rfl, rfl⟩)
    (ChangeSpec.witness6 (enc := enc) (C := Try.checked) false ⟨#[], zeroArgs Try.prog Try.f5, []⟩ 8 (by kernel_rfl) (by kernel_rfl) (by kernel_rfl) (by kernel_rfl))
    (none_walk enc)

theorem slotsNone_holds : Rows.SlotsNoneSaid :=
  OpenClaim.holds_of_wide 5 Try.f5 rfl rfl rfl rfl rfl rfl rfl ⟨rfl, rfl, rfl, rfl, rfl⟩ rfl rfl rfl rfl rfl (by kernel_rfl) Try.func5 (by kernel_rfl)
    (of_decide_eq_true (by kernel_rfl)) (by unfold Func.isWrapper; first | (rw [if_pos (by decide +kernel)]; kernel_rfl) | (rw [if_neg (by decide +kernel)]; exact ⟨rfl, rfl⟩))
    (fun os started H enc _ => slotsNone_lifted os started H enc)
#print axioms slotsNone_holds
end Go.Proofs.Ytlmiijgjdihmpaa
