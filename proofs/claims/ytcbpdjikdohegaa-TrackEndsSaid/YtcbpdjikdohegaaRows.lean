/-
  No cell of these rows narrows 'for every input' (looked for: loops, veiled, ifaces, maps, wideKeys, modest, calm, conditions, laid).
  DERIVED. THE GIVEN ROWS OF THIS SEAT. 6 by the template 'for every input the law returns true; each argument reads behind the call as it read before'; 0 by the template 'total and deterministic' (their statements: YtcbpdjikdohegaaTotals.lean).
  GIVEN WITH THE SEED: the statements are not yours to turn. If you find one false, say at which input.
  Laid BY PROGRAM, IN A SANDBOX (cutbox-rows.mjs): the forced cells as the released guide's own fill.sh prints them over the translation d7f1b09e471a9551… (all of the seat's roots in one cut). By AI agents, Wed Nov 11 2026. No macro, syntax, notation, axiom, sorry.
-/
import Derived.Test.YtcbpdjikdohegaaChecked
import GoSem.Claim
import GoSem.ClaimJoined
import GoSem.ClaimMapViews
import Derived.JoinedTies
import Derived.KernelRfl
namespace Go.Proofs.Ytcbpdjikdohegaa
/- THE CELL 'sum', in the pinned program and in every row, IS THE sha256 OF THE DUMP (.gsa) THAT YtcbpdjikdohegaaProg.lean LOADS. Nothing in Lean hashes anything: it is a label: what it is worth is what the hold of that sum in a sandbox is worth. -/
noncomputable def Try.pinned : Pinned := { name := "ytcbpdjikdohegaa", sum := "d7f1b09e471a9551dc5e5b7014bc37212b6ec4f4d83a4b6f9e26bce88e083a21", checked := Try.checked }
namespace Rows
def none {H : Type} : Left H := { results := [], args := [] }

/-- 'linkboylaw22.SlotsLooks': WHATEVER THE INPUT: true; the input reads as it did. -/
def slotsLooksSpec : ChangeSpec := { name := "slotsLooks", fn := fun _ => fun
  | [d1, d2, d3, d4] => { results := [.lit (.bool true)], args := [d1, d2, d3, d4] }
  | _ => none }
def slotsLooksRow : OpenClaim := { program := "ytcbpdjikdohegaa", sum := "d7f1b09e471a9551dc5e5b7014bc37212b6ec4f4d83a4b6f9e26bce88e083a21", func := "linkboy/linkboylaw22.SlotsLooks", spec := "slotsLooks", apart := false }
def SlotsLooksSaid : Prop := slotsLooksRow.holds Try.pinned (OpenSpec.ofChange slotsLooksSpec)

/-- ITS FALSE NEIGHBOUR: 'it returns false'. Refute it at one input. -/
def slotsLooksWrong : ChangeSpec := { name := "slotsLooks", fn := fun _ => fun
  | [d1, d2, d3, d4] => { results := [.lit (.bool false)], args := [d1, d2, d3, d4] }
  | _ => none }
def SlotsLooksWrongFalsely : Prop := slotsLooksRow.holds Try.pinned (OpenSpec.ofChange slotsLooksWrong)

/-- 'linkboylaw17.WheelRaw': WHATEVER THE INPUT: true; the input reads as it did. -/
def wheelRawSpec : ChangeSpec := { name := "wheelRaw", fn := fun _ => fun
  | [d1, d2] => { results := [.lit (.bool true)], args := [d1, d2] }
  | _ => none }
def wheelRawRow : OpenClaim := { program := "ytcbpdjikdohegaa", sum := "d7f1b09e471a9551dc5e5b7014bc37212b6ec4f4d83a4b6f9e26bce88e083a21", func := "linkboy/linkboylaw17.WheelRaw", spec := "wheelRaw", unfollowed := true, recurses := true, apart := false }
def WheelRawSaid : Prop := wheelRawRow.holds Try.pinned (OpenSpec.ofChange wheelRawSpec)

/-- ITS FALSE NEIGHBOUR: 'it returns false'. Refute it at one input. -/
def wheelRawWrong : ChangeSpec := { name := "wheelRaw", fn := fun _ => fun
  | [d1, d2] => { results := [.lit (.bool false)], args := [d1, d2] }
  | _ => none }
def WheelRawWrongFalsely : Prop := wheelRawRow.holds Try.pinned (OpenSpec.ofChange wheelRawWrong)

/-- 'linkboylaw17.WheelDoes': WHATEVER THE INPUT: true; the input reads as it did. -/
def wheelDoesSpec : ChangeSpec := { name := "wheelDoes", fn := fun _ => fun
  | [d1, d2, d3] => { results := [.lit (.bool true)], args := [d1, d2, d3] }
  | _ => none }
def wheelDoesRow : OpenClaim := { program := "ytcbpdjikdohegaa", sum := "d7f1b09e471a9551dc5e5b7014bc37212b6ec4f4d83a4b6f9e26bce88e083a21", func := "linkboy/linkboylaw17.WheelDoes", spec := "wheelDoes", unfollowed := true, recurses := true, apart := false }
def WheelDoesSaid : Prop := wheelDoesRow.holds Try.pinned (OpenSpec.ofChange wheelDoesSpec)

/-- ITS FALSE NEIGHBOUR: 'it returns false'. Refute it at one input. -/
def wheelDoesWrong : ChangeSpec := { name := "wheelDoes", fn := fun _ => fun
  | [d1, d2, d3] => { results := [.lit (.bool false)], args := [d1, d2, d3] }
  | _ => none }
def WheelDoesWrongFalsely : Prop := wheelDoesRow.holds Try.pinned (OpenSpec.ofChange wheelDoesWrong)

/-- 'linkboylaw17.WheelOnce': WHATEVER THE INPUT: true; the input reads as it did. -/
def wheelOnceSpec : ChangeSpec := { name := "wheelOnce", fn := fun _ => fun
  | [d1, d2] => { results := [.lit (.bool true)], args := [d1, d2] }
  | _ => none }
def wheelOnceRow : OpenClaim := { program := "ytcbpdjikdohegaa", sum := "d7f1b09e471a9551dc5e5b7014bc37212b6ec4f4d83a4b6f9e26bce88e083a21", func := "linkboy/linkboylaw17.WheelOnce", spec := "wheelOnce", unfollowed := true, recurses := true, apart := false }
def WheelOnceSaid : Prop := wheelOnceRow.holds Try.pinned (OpenSpec.ofChange wheelOnceSpec)

/-- ITS FALSE NEIGHBOUR: 'it returns false'. Refute it at one input. -/
def wheelOnceWrong : ChangeSpec := { name := "wheelOnce", fn := fun _ => fun
  | [d1, d2] => { results := [.lit (.bool false)], args := [d1, d2] }
  | _ => none }
def WheelOnceWrongFalsely : Prop := wheelOnceRow.holds Try.pinned (OpenSpec.ofChange wheelOnceWrong)

/-- 'linkboylaw22.SlotsDoes': WHATEVER THE INPUT: true; the input reads as it did. -/
def slotsDoesSpec : ChangeSpec := { name := "slotsDoes", fn := fun _ => fun
  | [d1, d2, d3] => { results := [.lit (.bool true)], args := [d1, d2, d3] }
  | _ => none }
def slotsDoesRow : OpenClaim := { program := "ytcbpdjikdohegaa", sum := "d7f1b09e471a9551dc5e5b7014bc37212b6ec4f4d83a4b6f9e26bce88e083a21", func := "linkboy/linkboylaw22.SlotsDoes", spec := "slotsDoes", inPlace := ["internal/bytealg.Compare"], unfollowed := true, recurses := true, apart := false }
def SlotsDoesSaid : Prop := slotsDoesRow.holds Try.pinned (OpenSpec.ofChange slotsDoesSpec)

/-- ITS FALSE NEIGHBOUR: 'it returns false'. Refute it at one input. -/
def slotsDoesWrong : ChangeSpec := { name := "slotsDoes", fn := fun _ => fun
  | [d1, d2, d3] => { results := [.lit (.bool false)], args := [d1, d2, d3] }
  | _ => none }
def SlotsDoesWrongFalsely : Prop := slotsDoesRow.holds Try.pinned (OpenSpec.ofChange slotsDoesWrong)

/-- 'linkboylaw23.TrackEnds': WHATEVER THE INPUT: true; the input reads as it did. -/
def trackEndsSpec : ChangeSpec := { name := "trackEnds", fn := fun _ => fun
  | [d1, d2, d3] => { results := [.lit (.bool true)], args := [d1, d2, d3] }
  | _ => none }
def trackEndsRow : OpenClaim := { program := "ytcbpdjikdohegaa", sum := "d7f1b09e471a9551dc5e5b7014bc37212b6ec4f4d83a4b6f9e26bce88e083a21", func := "linkboy/linkboylaw23.TrackEnds", spec := "trackEnds", inPlace := ["internal/bytealg.Compare"], unfollowed := true, recurses := true, apart := false }
def TrackEndsSaid : Prop := trackEndsRow.holds Try.pinned (OpenSpec.ofChange trackEndsSpec)

/-- ITS FALSE NEIGHBOUR: 'it returns false'. Refute it at one input. -/
def trackEndsWrong : ChangeSpec := { name := "trackEnds", fn := fun _ => fun
  | [d1, d2, d3] => { results := [.lit (.bool false)], args := [d1, d2, d3] }
  | _ => none }
def TrackEndsWrongFalsely : Prop := trackEndsRow.holds Try.pinned (OpenSpec.ofChange trackEndsWrong)

/- THE SECOND FORM. 'bulk': how many values and letters a reading holds, each counted each time it is reached (what is shared counts as often as it is met; a slice's spare places count too). A statement '..UptoSaid' is the law's where the arguments, and the package variables that the reading takes, are together of bulk at most 1048576: NARROWER than '..Said'. Prove '..Said' where nothing that the law and all that it calls make is longer than what came in: it says more and counts as full. Else prove '..UptoSaid'. A law counts once. -/
mutual
def uptoBulk {H : Type} : DataW H → Nat
  | .lit (.string bytes) => bytes.length + 1
  | .lit _ => 1
  | .nil => 1
  | .ptr d => uptoBulk d + 1
  | .slice elems spare => uptoBulkAll elems + uptoBulkAll spare + 1
  | .agg parts => uptoBulkAll parts + 1
  | .iface _ d => uptoBulk d + 1
  | .map entries => uptoBulkEntries entries + 1
  | .held _ => 1
def uptoBulkAll {H : Type} : List (DataW H) → Nat
  | [] => 0
  | d :: r => uptoBulk d + uptoBulkAll r
def uptoBulkEntries {H : Type} : List (Lit × DataW H) → Nat
  | [] => 0
  | x :: r => uptoBulkEntry x + uptoBulkEntries r
def uptoBulkEntry {H : Type} : Lit × DataW H → Nat
  | (.string bytes, d) => bytes.length + uptoBulk d + 1
  | (_, d) => uptoBulk d + 1
 end
def uptoSmall : (H : Type) → List (DataW H) → Bool := fun _ ds => decide (uptoBulkAll ds ≤ 1048576)
def OpenSpec.upto (s : _root_.Go.ChangeSpec) : _root_.Go.OpenSpec := { _root_.Go.OpenSpec.ofChange s with cond := some uptoSmall }

/-- 'linkboylaw22.SlotsLooks', WHERE WHAT IT READS IS OF BULK AT MOST 1048576: true; the input reads as it did. -/
def slotsLooksUptoRow : OpenClaim := { program := "ytcbpdjikdohegaa", sum := "d7f1b09e471a9551dc5e5b7014bc37212b6ec4f4d83a4b6f9e26bce88e083a21", func := "linkboy/linkboylaw22.SlotsLooks", spec := "slotsLooks", apart := false, narrowed := true }
def SlotsLooksUptoSaid : Prop := slotsLooksUptoRow.holds Try.pinned (OpenSpec.upto slotsLooksSpec)

/-- 'linkboylaw17.WheelRaw', WHERE WHAT IT READS IS OF BULK AT MOST 1048576: true; the input reads as it did. -/
def wheelRawUptoRow : OpenClaim := { program := "ytcbpdjikdohegaa", sum := "d7f1b09e471a9551dc5e5b7014bc37212b6ec4f4d83a4b6f9e26bce88e083a21", func := "linkboy/linkboylaw17.WheelRaw", spec := "wheelRaw", unfollowed := true, recurses := true, apart := false, narrowed := true }
def WheelRawUptoSaid : Prop := wheelRawUptoRow.holds Try.pinned (OpenSpec.upto wheelRawSpec)

/-- 'linkboylaw17.WheelDoes', WHERE WHAT IT READS IS OF BULK AT MOST 1048576: true; the input reads as it did. -/
def wheelDoesUptoRow : OpenClaim := { program := "ytcbpdjikdohegaa", sum := "d7f1b09e471a9551dc5e5b7014bc37212b6ec4f4d83a4b6f9e26bce88e083a21", func := "linkboy/linkboylaw17.WheelDoes", spec := "wheelDoes", unfollowed := true, recurses := true, apart := false, narrowed := true }
def WheelDoesUptoSaid : Prop := wheelDoesUptoRow.holds Try.pinned (OpenSpec.upto wheelDoesSpec)

/-- 'linkboylaw17.WheelOnce', WHERE WHAT IT READS IS OF BULK AT MOST 1048576: true; the input reads as it did. -/
def wheelOnceUptoRow : OpenClaim := { program := "ytcbpdjikdohegaa", sum := "d7f1b09e471a9551dc5e5b7014bc37212b6ec4f4d83a4b6f9e26bce88e083a21", func := "linkboy/linkboylaw17.WheelOnce", spec := "wheelOnce", unfollowed := true, recurses := true, apart := false, narrowed := true }
def WheelOnceUptoSaid : Prop := wheelOnceUptoRow.holds Try.pinned (OpenSpec.upto wheelOnceSpec)

/-- 'linkboylaw22.SlotsDoes', WHERE WHAT IT READS IS OF BULK AT MOST 1048576: true; the input reads as it did. -/
def slotsDoesUptoRow : OpenClaim := { program := "ytcbpdjikdohegaa", sum := "d7f1b09e471a9551dc5e5b7014bc37212b6ec4f4d83a4b6f9e26bce88e083a21", func := "linkboy/linkboylaw22.SlotsDoes", spec := "slotsDoes", inPlace := ["internal/bytealg.Compare"], unfollowed := true, recurses := true, apart := false, narrowed := true }
def SlotsDoesUptoSaid : Prop := slotsDoesUptoRow.holds Try.pinned (OpenSpec.upto slotsDoesSpec)

/-- 'linkboylaw23.TrackEnds', WHERE WHAT IT READS IS OF BULK AT MOST 1048576: true; the input reads as it did. -/
def trackEndsUptoRow : OpenClaim := { program := "ytcbpdjikdohegaa", sum := "d7f1b09e471a9551dc5e5b7014bc37212b6ec4f4d83a4b6f9e26bce88e083a21", func := "linkboy/linkboylaw23.TrackEnds", spec := "trackEnds", inPlace := ["internal/bytealg.Compare"], unfollowed := true, recurses := true, apart := false, narrowed := true }
def TrackEndsUptoSaid : Prop := trackEndsUptoRow.holds Try.pinned (OpenSpec.upto trackEndsSpec)

end Rows
end Go.Proofs.Ytcbpdjikdohegaa
