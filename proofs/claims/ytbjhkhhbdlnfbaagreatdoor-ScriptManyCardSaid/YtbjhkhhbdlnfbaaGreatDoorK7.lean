/-
  The closed facts of a row, one by one: for programs of hundreds of functions. No condition.
  A program without a go statement: no row of it starts a goroutine. Condition: none of its functions bears one.
  A closed fact of the card of ScriptMany, part 1 of 4. No condition.
  A closed fact of the card of ScriptMany, part 2 of 4. No condition.
  A closed fact of the card of ScriptMany, part 3 of 4. No condition.
  A closed fact of the card of ScriptMany, part 4 of 4. No condition.
-/
import Derived.JoinedOf
import Derived.WalkKit
import Derived.WalkSpells
import Derived.WalkLawsBesides
import Derived.Deep.Light
import Derived.Deep.RegionHeld3
import Derived.Deep.MidRow
import Derived.Lib.Hide
import Derived.Test.YtbjhkhhbdlnfbaaGreatDoorRows
import GoSem.ClaimGoes
import Derived.Test.YtbjhkhhbdlnfbaaGreatDoorCards
import Derived.Test.YtbjhkhhbdlnfbaaGreatDoorTie
import Derived.SevenTiedAt
namespace Go.Proofs.YtbjhkhhbdlnfbaaGreatDoor

theorem facts_of {P : Program} {f : FuncId} {fn : Func} {s : ChangeSpec} {c : OpenClaim}
    (h0 : (c.wf (OpenSpec.ofChange s)) = true)
    (h1 : (laidOutB P) = true)
    (h2 : (mapsRowed P) = true)
    (h3 : (fn.params.all (P.readableRec ·)) = true)
    (h4 : (namedTie P c.named s.vars) = true)
    (h5 : ((c.stops == [])) = true)
    (h6 : ((P.stops == [])) = true)
    (h7 : ((c.knobs == [])) = true)
    (h8 : ((P.stopKnobs == [])) = true)
    (h9 : ((c.inPlace == P.inPlace f)) = true)
    (h10 : ((c.unfollowed == P.unfollowed f)) = true)
    (h11 : ((c.recurses == P.recurses f)) = true)
    (h12 : ((c.named == P.varsNamed f)) = true)
    (h13 : ((c.maps == (fn.params.toList ++ s.plain.varTypes P).any (P.mapsRec ·))) = true)
    (h14 : ((c.ifaces == (fn.params.toList ++ s.plain.varTypes P).any (P.ifacesRec ·))) = true)
    (h15 : ((c.mapsOut == P.mapsAmong fn.resultTypes.toList)) = true)
    (h16 : ((c.loops == (fn.params.toList ++ s.plain.varTypes P).any (P.loopsFrom ·))) = true)
    (h17 : ((c.wideKeys == (fn.params.toList ++ s.plain.varTypes P ++ fn.resultTypes.toList).any (P.wideKeysFrom ·))) = true)
    (h18 : (s.vars.all (P.varReadable ·)) = true)
    (h19 : (fn.resultTypes.all (fun t => P.readableRec t && decide (t < P.types.size))) = true)
    (h20 : ((c.ifacesOut == fn.resultTypes.toList.any (P.ifacesRec ·))) = true)
    (h21 : ((c.loopsOut == fn.resultTypes.toList.any (P.loopsFrom ·))) = true)
    (h22 : ((c.plainKeys == P.plainKeys)) = true)
    (h23 : (c.shortTexts.isNone) = true)
    (h24 : (P.stopsHeard) = true)
    (h25 : (P.mayEnter) = true)
    (h26 : ((c.lifted == P.liftsFinal)) = true)
    (h27 : ((P.make == some c.make)) = true)
    (h28 : ((c.kinds == (if c.domain.isEmpty then [] else fn.params.toList.map fun t => match P.underlying t with | some (.int k) => some k | _ => none))) = true)
    (h29 : ((c.pinned == c.pinnedBy)) = true)
    (h30 : ((c.veiled == (fn.params.toList ++ s.plain.varTypes P ++ fn.resultTypes.toList).any (P.veiledRec ·))) = true)
    (h31 : (c.veiledFits P fn.params.toList (fn.params.toList ++ s.plain.varTypes P ++ fn.resultTypes.toList)) = true) : joinedFacts P f fn s c = true := by
  simp only [joinedFacts, Bool.and_eq_true]
  exact ⟨⟨⟨⟨⟨⟨⟨⟨⟨⟨⟨⟨⟨⟨⟨⟨⟨⟨⟨⟨⟨⟨⟨⟨⟨⟨⟨⟨⟨⟨⟨h0, h1⟩, h2⟩, h3⟩, h4⟩, h5⟩, h6⟩, h7⟩, h8⟩, h9⟩, h10⟩, h11⟩, h12⟩, h13⟩, h14⟩, h15⟩, h16⟩, h17⟩, h18⟩, h19⟩, h20⟩, h21⟩, h22⟩, h23⟩, h24⟩, h25⟩, h26⟩, h27⟩, h28⟩, h29⟩, h30⟩, h31⟩
end Go.Proofs.YtbjhkhhbdlnfbaaGreatDoor
namespace Go.Proofs.YtbjhkhhbdlnfbaaGreatDoor
open Go.RowKit

theorem goesBy_of {P : Program} {c : OpenClaim} (h : P.funcs.toList.all (fun fn => !fn.goes) = true) (hs : c.start = .entering) : false = c.goesBy P := by
  have hall : ∀ fn, fn ∈ P.funcs.toList → fn.goes = false := fun fn hf => by simpa using List.all_eq_true.1 h fn hf
  have h1 : P.funcs.any Func.goes = false := by
    rw [Bool.eq_false_iff]
    intro hh
    rw [Array.any_eq_true] at hh
    obtain ⟨i, hi, hq⟩ := hh
    rw [hall _ (by simp)] at hq; cases hq
  have hg : ∀ f, P.goes f = false := fun f => by
    unfold Program.goes
    rw [h1, Bool.and_false, Bool.or_false, List.any_eq_false]
    intro g _ hh
    cases hq : P.funcs[g]? with
    | none => rw [hq] at hh; simp at hh
    | some fn =>
      rw [hq] at hh
      have hm : fn ∈ P.funcs.toList := by
        rw [Array.getElem?_eq_some_iff] at hq
        obtain ⟨hi, rfl⟩ := hq
        simp
      have := hall fn hm
      simp [this] at hh
  unfold OpenClaim.goesBy Program.goesAt Program.goesFrom
  rw [hs]
  cases P.funcNamed c.func with
  | none => rfl
  | some f => simp [hg f]
set_option maxRecDepth 100000 in
theorem law_noGoes : Tryz.prog.funcs.toList.all (fun fn => !fn.goes) = true := by kernel_rfl
end Go.Proofs.YtbjhkhhbdlnfbaaGreatDoor
namespace Go.Proofs.YtbjhkhhbdlnfbaaGreatDoor
open Go.RowKit

set_option maxRecDepth 100000 in
theorem scriptMany_card1 : Rows.scriptManyRow.wfByText (OpenSpec.ofChange Rows.scriptManySpec) = true := by kernel_rfl
end Go.Proofs.YtbjhkhhbdlnfbaaGreatDoor
namespace Go.Proofs.YtbjhkhhbdlnfbaaGreatDoor
open Go.RowKit

set_option maxRecDepth 100000 in
theorem scriptMany_card2 : Tryz.pinned.checked.prog.mainIs = some (true, "3759d59159face3823c1670c402a6cf11d9e2d516f16594467f5fb7f00a17c83".toList) := by kernel_rfl
end Go.Proofs.YtbjhkhhbdlnfbaaGreatDoor
namespace Go.Proofs.YtbjhkhhbdlnfbaaGreatDoor
open Go.RowKit

set_option maxRecDepth 100000 in
theorem scriptMany_card3 : true = Tryz.pinned.checked.prog.looks [] := by kernel_rfl
end Go.Proofs.YtbjhkhhbdlnfbaaGreatDoor
namespace Go.Proofs.YtbjhkhhbdlnfbaaGreatDoor
open Go.RowKit

set_option maxRecDepth 100000 in
theorem scriptMany_card4 : false = Rows.scriptManyRow.goesBy Tryz.pinned.checked.prog := goesBy_of law_noGoes rfl
end Go.Proofs.YtbjhkhhbdlnfbaaGreatDoor
