/-
  Rows of frames that come in, read by value; the frame of a law over a seat with listed variables. Conditions: the listed variables are the two tables of unicode/utf8.
-/
import Derived.Test.YtgodclgcfpmloaaGreatDoorLaw
import Derived.Test.YtgodclgcfpmloaaGreatDoorReads
import Derived.Test.YtgodclgcfpmloaaGreatDoorTrjK
import Derived.Test.YtgodclgcfpmloaaGreatDoorCards
import Derived.Test.YtgodclgcfpmloaaGreatDoorTie
import Derived.LaidMore
import Derived.LaidHandle
import Derived.ChangeMaps5
import Derived.SevenTiedAt
namespace Go.Proofs.YtgodclgcfpmloaaGreatDoor.V
open Go.ChangeShapes Go.WideShapes Go.ChangeAt Go.RowKit Go.Deep

section
variable {H : Type} {enc : TypeId × Value → H} {W : World} {P : Program}

theorem rowsD_read {α : Type} [Inhabited α] {t el : TypeId} {k : Nat} {encD : α → List D} {ok : α → Prop} (ht : P.underlying t = some (.slice el)) (hk : P.cellsOf el = k) (hk0 : 0 < k)
    (hlen : ∀ x, (encD x).length = k) (helem : ∀ (fuel : Nat) (cs : List Value) (x : DataW H × List MemPlace), DataW.trod enc P W 0 (fun _ => true) true fuel el cs = some x → ∃ v, ok v ∧ ∀ (j : Nat) (d : D), (encD v)[j]? = some d → ∃ c, cs[j]? = some c ∧ Rep (baseCtx W fun b => b < W.heap.size).still d c)
    {fuel : Nat} {sv : Value} {x : DataW H × List MemPlace} (h : DataW.trod enc P W 0 (fun _ => true) true fuel t [sv] = some x) :
    ∃ L : List α, Rep (baseCtx W fun b => b < W.heap.size) (.rows α k encD L) sv ∧ ∀ v ∈ L, ok v := by
  rcases open_slice ht h with ⟨h1, _⟩ | ⟨a, len, cap, m, n, Dd, Pl, h1, _, hlc, hcm, hm, _, hx⟩
  · simp only [List.cons.injEq, and_true] at h1
    subst h1
    exact ⟨[], DLe.nil k encD _ _ .v, fun v hv => by cases hv⟩
  · simp only [List.cons.injEq, and_true] at h1
    subst h1
    have hmc : len ≤ m := by rw [hm]; simp; omega
    have key : ∀ i, i < len → ∃ v : α, ok v ∧ ∀ (j : Nat) (d : D), (encD v)[j]? = some d → ∃ c, W.cell? ((a.add (i * k)).add j) = some c ∧ Rep (baseCtx W fun b => b < W.heap.size).still d c := fun i hi => by
      obtain ⟨cs', g1, g2⟩ := hx i (by omega)
      obtain ⟨v, g3, g4⟩ := helem _ _ _ g2
      obtain ⟨_, g5, g6⟩ := World.cells?_some g1
      rw [hk] at g5 g6
      refine ⟨v, g3, fun j c hj => ?_⟩
      have hjk : j < k := by have := (List.getElem?_eq_some_iff.1 hj).1; rw [hlen] at this; exact this
      rw [g6 j hjk]
      exact g4 j c hj
    obtain ⟨f, hf⟩ := choose_lt (α := α) (p := fun i v => ok v ∧ ∀ (j : Nat) (d : D), (encD v)[j]? = some d → ∃ c, W.cell? ((a.add (i * k)).add j) = some c ∧ Rep (baseCtx W fun b => b < W.heap.size).still d c) (n := len) key
    refine ⟨(List.range len).map f, ?_, ?_⟩
    · have hL : ((List.range len).map f).length = len := by simp
      obtain ⟨b, o, sp⟩ := a
      have first : 0 < len → ∃ c, W.cell? (((⟨b, o, sp⟩ : Addr).add (0 * k)).add 0) = some c := fun h0 => by
        have hl0 := hlen (f 0)
        have h2 : (encD (f 0))[0]? = some ((encD (f 0))[0]'(by omega)) := List.getElem?_eq_getElem (by omega)
        obtain ⟨c, h3, _⟩ := (hf 0 h0).2 0 _ h2
        exact ⟨c, h3⟩
      have hsp : 0 < len → sp = none := fun h0 => by
        cases sp with
        | none => rfl
        | some s =>
          exfalso
          obtain ⟨c, h3⟩ := first h0
          simp only [Addr.add, Nat.zero_mul, if_true, World.cell?] at h3
          split at h3 <;> simp at h3
      have hblk : 0 < len → b < W.heap.size := fun h0 => by
        obtain ⟨c, h3⟩ := first h0
        have := hsp h0
        subst this
        have e : (((⟨b, o, none⟩ : Addr).add (0 * k)).add 0) = ⟨b, o, none⟩ := by unfold Addr.add; simp
        rw [e] at h3
        unfold World.cell? at h3
        by_cases hb : b < W.heap.size
        · exact hb
        · exfalso
          rw [Array.getElem?_eq_none (by show W.heap.size ≤ b; omega)] at h3
          simp at h3
      have hget : ∀ (i : Nat) x, ((List.range len).map f)[i]? = some x → i < len ∧ x = f i := by
        intro i x hx'
        have hi : i < len := by have := (List.getElem?_eq_some_iff.1 hx').1; simpa using this
        rw [List.getElem?_map, List.getElem?_range hi] at hx'
        exact ⟨hi, by simpa [eq_comm] using hx'⟩
      have hat : ∀ (i : Nat) x (j : Nat) d, ((List.range len).map f)[i]? = some x → (encD x)[j]? = some d → ∃ c, W.cell? ⟨b, o + i * k + j, none⟩ = some c ∧ Rep (baseCtx W fun b => b < W.heap.size).still d c := fun i x j d hx' hd => by
        obtain ⟨hi, rfl⟩ := hget i x hx'
        obtain ⟨c, h3, h4⟩ := (hf i hi).2 j d hd
        have := hsp (by omega)
        subst this
        have ea : ((⟨b, o, none⟩ : Addr).add (i * k)).add j = ⟨b, o + i * k + j, none⟩ := by unfold Addr.add; split <;> split <;> simp_all
        rw [ea] at h3
        exact ⟨c, h3, h4⟩
      have hr := Rep.rows (C := baseCtx W fun b => b < W.heap.size) (α := α) (e := k) (enc := encD) (L := (List.range len).map f) (p := some ⟨b, o, sp⟩) (c := cap) b o (fun i j => (W.cell? ⟨b, o + i * k + j, none⟩).getD undef) (by rw [hL]; exact hlc)
        (fun hne => by
          have h0 : 0 < len := by
            rcases Nat.eq_zero_or_pos len with h0 | h0
            · subst h0; exact absurd rfl hne
            · exact h0
          rw [hsp h0]
          exact ⟨rfl, hblk h0⟩)
        (fun i x _ => hlen x)
        (fun i x j d hx' hd => by
          obtain ⟨c, h3, _⟩ := hat i x j d hx' hd
          show W.cell? _ = _
          rw [h3]; rfl)
        (fun i x j d hx' hd => by
          obtain ⟨c, h3, h4⟩ := hat i x j d hx' hd
          rw [h3]; exact h4)
      rw [hL] at hr
      exact hr
    · intro v hv
      obtain ⟨i, hi, rfl⟩ := List.mem_map.1 hv
      exact (hf i (List.mem_range.1 hi)).1
end
section
variable {H : Type} {enc : TypeId × Value → H} {W : World}
theorem wfU8 {n : Int} (h : (Lit.int .u8 n).wf = true) : 0 ≤ n ∧ n < 256 := by
  simp [Lit.wf, IntKind.min, IntKind.max, IntKind.signed, IntKind.bits] at h; omega
def octV (x : Nat) : List Value := [.int .u8 x]
theorem oct_elem {fuel : Nat} {cs : List Value} {x : DataW H × List MemPlace} (h : DataW.trod enc Tryz.prog W 0 (fun _ => true) true fuel 5 cs = some x) :
    ∃ d : Nat, d < 256 ∧ ∀ (j : Nat) (c : Value), (octV d)[j]? = some c → cs[j]? = some c := by
  obtain ⟨n, rfl, _, hw⟩ := DataW.trod_int Tryz.underlying5 h
  have := wfU8 hw
  refine ⟨n.toNat, by omega, fun j c hj => ?_⟩
  unfold octV at hj
  rw [show ((n.toNat : Nat) : Int) = n by omega] at hj
  exact hj
theorem octs_read {fuel : Nat} {sv : Value} {x : DataW H × List MemPlace} (h : DataW.trod enc Tryz.prog W 0 (fun _ => true) true fuel 23 [sv] = some x) :
    ∃ L : List Nat, Rep (baseCtx W fun b => b < W.heap.size) (octR L) sv ∧ Byt L := by
  obtain ⟨L, h1, h2⟩ := rows_read (encD := octE) (encV := octV) (k := 1) (ok := fun n => n < 256) (fun _ => rfl) Tryz.underlying23 (by kernel_rfl) (by decide) (fun _ => rfl) (fun _ _ _ h => oct_elem h) h
  exact ⟨L, h1, fun c hc => h2 c hc⟩
theorem still_rows {W : World} {p : Nat → Prop} {α : Type} {e : Nat} {f : α → List D} {L : List α} {v : Value} (h : Rep (baseCtx W p) (.rows α e f L) v) : Rep (baseCtx W p).still (.rows α e f L) v := by
  cases h with
  | rows b o g hc hp hl hcell hrep => exact .rows b o g hc hp hl hcell hrep
instance : Inhabited Snt := ⟨⟨0, []⟩⟩
theorem snt_elem {fuel : Nat} {cs : List Value} {x : DataW H × List MemPlace} (h : DataW.trod enc Tryz.prog W 0 (fun _ => true) true fuel 25 cs = some x) :
    ∃ a : Snt, Byt a.frame ∧ ∀ (j : Nat) (d : D), (sntD a)[j]? = some d → ∃ c, cs[j]? = some c ∧ Rep (baseCtx W fun b => b < W.heap.size).still d c := by
  obtain ⟨z0, h0, w0⟩ := trod_cell_int (d := 3) (off := 0) (k := .i64) h (by kernel_rfl) Tryz.underlying3
  obtain ⟨s1, f1, y1, h1, k1⟩ := trod_cell 3 _ 23 1 _ _ _ h (by kernel_rfl)
  obtain ⟨L, hL, hb⟩ := octs_read k1
  refine ⟨⟨z0, L⟩, hb, fun j d hd => ?_⟩
  match j, hd with
  | 0, hd => injection hd with hd; subst hd; exact ⟨_, h0, .v⟩
  | 1, hd => injection hd with hd; subst hd; exact ⟨_, h1, still_rows hL⟩
  | n + 2, hd => simp [sntD] at hd
theorem snts_read {fuel : Nat} {sv : Value} {x : DataW H × List MemPlace} (h : DataW.trod enc Tryz.prog W 0 (fun _ => true) true fuel 22 [sv] = some x) :
    ∃ L : List Snt, Rep (baseCtx W fun b => b < W.heap.size) (rowsS L) sv ∧ ∀ a, a ∈ L → Byt a.frame :=
  rowsD_read (encD := sntD) (k := 2) (ok := fun a => Byt a.frame) Tryz.underlying22 (by kernel_rfl) (by decide) (fun _ => rfl) (fun _ _ _ h => snt_elem h) h
end
end Go.Proofs.YtgodclgcfpmloaaGreatDoor.V

namespace Go.Proofs.YtgodclgcfpmloaaGreatDoor
open Go.ChangeShapes Go.WideShapes Go.ChangeAt Go.RowKit

abbrev doorLaidList : List (String × DataW Unit) := [("unicode/utf8.acceptRanges", Rows.laid_unicode_utf8_acceptRanges), ("unicode/utf8.first", Rows.laid_unicode_utf8_first)]
noncomputable def doorWorld (os : Os) : World :=
  let w0 := World.holding Tryz.prog os ⟨#[], #[], []⟩
  let put (h : Array Obj) (g : Nat) (cs : Array Value) : Array Obj := h.modify g fun
    | .cells _ t frozen => .cells cs t frozen
    | o => o
  let u8s (d : DataW Unit) : List Value := match d with
    | .agg ps => ps.flatMap fun
      | .lit (.int .u8 z) => [.int .u8 z]
      | .agg qs => qs.flatMap fun
        | .lit (.int .u8 z) => [.int .u8 z]
        | _ => []
      | _ => []
    | _ => []
  { w0 with heap := put (put w0.heap 1 (u8s Rows.laid_unicode_utf8_first).toArray) 2 (u8s Rows.laid_unicode_utf8_acceptRanges).toArray }
theorem door_met (os : Os) (args : Array Value) : laidMetH Tryz.prog doorLaidList ((doorWorld os).forCall (fun _ _ => 0) ⟨#[], args, []⟩).memory :=
  laidMetH_of_parts3 (fuel := 8) (laidMet_of_run' 8 (by kernel_rfl) (by kernel_rfl)) (by kernel_rfl) (by kernel_rfl)

set_option maxRecDepth 100000 in
theorem law_lifted_door {f : FuncId} {fn : Func} {s : ChangeSpec} {T : TypeId} (hfn : Tryz.prog.funcs[f]? = some fn) (noInit : Tryz.prog.inits.idxOf? f = none)
    (hvars : s.vars = []) (hres : fn.resultTypes = #[T]) (hT : Tryz.prog.underlying T = some .bool) (hreads : lawReads Tryz.prog fn.params.toList = true)
    (os : Os) (started : os.Started) (H : Type) (enc : TypeId × Value → H)
    (hs : ∀ ds : List (DataW H), ds.length = fn.params.toList.length → (s.fn H ds).results = [.lit (.bool true)] ∧ (s.fn H ds).args = ds ∧ (s.fn H ds).vars = [])
    (witness : ∃ (w : World) (tape : Tape) (i : Input), w.os = os ∧ (w.forCall tape i).Shaped Tryz.prog ∧ i.vars = [] ∧ Input.okWide Tryz.prog (w.forCall tape i) .any w.heap.size f i ∧
      ((s.pre enc Tryz.prog fn [] false (w.forCall tape i).memory i.args ∧ laidMetH Tryz.prog doorLaidList (w.forCall tape i).memory) ∧ sizedMet enc Tryz.prog fn (OpenSpec.ofChange s) false (w.forCall tape i).memory i.args) ∧ ({ modest := false } : Assume).holds Tryz.prog (lone (Frame.enter Tryz.prog f i.args .normal) [] (w.forCall tape i)))
    (walk : ∀ (W : World) (base : Nat) (args : Array Value) (ds : List (DataW H)) (p : List MemPlace),
      (∀ (j : Nat) t v, fn.params[j]? = some t → args[j]? = some v → Value.okWide Tryz.prog W .any base t v) →
      DataW.TrodAll enc Tryz.prog W 0 (fun _ => true) true fn.params.toList args.toList ds p →
      Calls Tryz.prog f args W fun e W' => e = .returned (.bool true) ∧ Below W.heap.size W W') :
    ReturnsInHanded {} Tryz.checked os f .any (fun w args => (s.pre enc Tryz.prog fn [] false w args ∧ laidMetH Tryz.prog doorLaidList w) ∧ sizedMet enc Tryz.prog fn (OpenSpec.ofChange s) false w args) (s.post enc Tryz.prog fn false true false false) := by
  refine returnsInHanded_of_change_and (C := Tryz.checked) (X := fun w _ => laidMetH Tryz.prog doorLaidList w) (fun _ _ _ hh h => h.of_heap hh) law_own started noInit hfn witness ?_
  intro W base args ds gs before hval0 hW hcnd _ _ _
  have hval : ∀ (j : Nat) t v, fn.params[j]? = some t → args[j]? = some v → Value.okWide Tryz.prog W .any base t v := hval0
  have hW' := hW
  obtain ⟨p, q, hA0, hV, rfl, hfz, hnd⟩ := hW
  have hA : DataW.TrodAll enc Tryz.prog W 0 (fun _ => true) true fn.params.toList args.toList ds p := hA0
  rw [hvars] at hV
  obtain ⟨rfl, rfl⟩ := trodVars_none hV
  have hlen : ∀ (ts : List TypeId) (vs : List Value) (ds : List (DataW H)) (ps : List MemPlace), DataW.TrodAll enc Tryz.prog W 0 (fun _ => true) true ts vs ds ps → ds.length = ts.length := by
    intro ts
    induction ts with
    | nil => intro vs ds ps h; obtain ⟨rfl, rfl, rfl⟩ := trodAll_nil h; rfl
    | cons t ts ih =>
      intro vs ds ps h
      obtain ⟨v, vs', d, ds', p, q, rfl, rfl, rfl, h1, h2⟩ := trodAll_cons h
      simp [ih _ _ _ h2]
  have hl := hlen _ _ _ _ hA
  obtain ⟨r1, r2, r3⟩ := hs ds hl
  refine (walk W base args ds p hval hA).mono fun e W' ⟨he, hb⟩ => ?_
  subst he
  refine ⟨_, rfl, ds, [], _, [], p, [], hW', ?_, ?_, ?_, hb.frame _, fun h => by cases h⟩
  · rw [hres]
    simp only [List.append_nil]
    rw [r1]
    exact trodAll_mk1 (shut_bool hT true)
  · simp only [List.append_nil]
    rw [r2]
    exact law_below_all law_laidOut hb _ hreads _ _ _ hA
  · simp only [List.append_nil]
    rw [r3, hvars]
    exact rfl
def doorZeros (P : Program) (fn : Func) : Array Value := fn.params.map fun t => match P.info? t with
  | some i => i.zero.getD undef
  | none => undef
end Go.Proofs.YtgodclgcfpmloaaGreatDoor
