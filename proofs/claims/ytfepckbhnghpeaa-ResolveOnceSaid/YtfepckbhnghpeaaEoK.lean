/-
  A configuration, deeds with a net, as they come in. (Printed by gen_eo.py.) No condition beyond the reading.
-/
import Derived.Test.YtfepckbhnghpeaaLaw
import Derived.Test.YtfepckbhnghpeaaReads
import Derived.Test.YtfepckbhnghpeaaK18
namespace Go.Proofs.Ytfepckbhnghpeaa.V
open Go.ChangeShapes Go.WideShapes Go.ChangeAt Go.RowKit Go.Deep

section
variable {H : Type} {enc : TypeId × Value → H} {W : World} {P : Program}

theorem rowsD_read {α : Type} [Inhabited α] {t el : TypeId} {k : Nat} {encD : α → List D} {ok : α → Prop} (ht : P.underlying t = some (.slice el)) (hk : P.cellsOf el = k) (hk0 : 0 < k)
    (hlen : ∀ x, (encD x).length = k) (helem : ∀ (fuel : Nat) (cs : List Value) (x : DataW H × List MemPlace), DataW.trod enc P W 0 (fun _ => true) true fuel el cs = some x → ∃ v, ok v ∧ ∀ (j : Nat) (d : D), (encD v)[j]? = some d → ∃ c, cs[j]? = some c ∧ Rep (baseCtx W fun b => b < W.heap.size).still d c)
    {fuel : Nat} {sv : Value} {x : DataW H × List MemPlace} (h : DataW.trod enc P W 0 (fun _ => true) true fuel t [sv] = some x) :
    ∃ L : List α, Rep (baseCtx W fun b => b < W.heap.size) (.rows α k encD L) sv ∧ ∀ v ∈ L, ok v := by
  rcases open_slice ht h with ⟨h1, _⟩ | ⟨a, len, cap, m, n, Dd, Pl, h1, _, hlc, hcm, hm, _, hx⟩
  · simp only [List.cons.injEq, and_true] at h1
    subst h1
    exact ⟨[], DLe.nil k encD _ _ .v, fun v hv => by cases hv⟩
  · simp only [List.cons.injEq, and_true] at h1
    subst h1
    have hmc : len ≤ m := by rw [hm]; simp; omega
    have key : ∀ i, i < len → ∃ v : α, ok v ∧ ∀ (j : Nat) (d : D), (encD v)[j]? = some d → ∃ c, W.cell? ((a.add (i * k)).add j) = some c ∧ Rep (baseCtx W fun b => b < W.heap.size).still d c := fun i hi => by
      obtain ⟨cs', g1, g2⟩ := hx i (by omega)
      obtain ⟨v, g3, g4⟩ := helem _ _ _ g2
      obtain ⟨_, g5, g6⟩ := World.cells?_some g1
      rw [hk] at g5 g6
      refine ⟨v, g3, fun j c hj => ?_⟩
      have hjk : j < k := by have := (List.getElem?_eq_some_iff.1 hj).1; rw [hlen] at this; exact this
      rw [g6 j hjk]
      exact g4 j c hj
    obtain ⟨f, hf⟩ := choose_lt (α := α) (p := fun i v => ok v ∧ ∀ (j : Nat) (d : D), (encD v)[j]? = some d → ∃ c, W.cell? ((a.add (i * k)).add j) = some c ∧ Rep (baseCtx W fun b => b < W.heap.size).still d c) (n := len) key
    refine ⟨(List.range len).map f, ?_, ?_⟩
    · have hL : ((List.range len).map f).length = len := by simp
      obtain ⟨b, o, sp⟩ := a
      have first : 0 < len → ∃ c, W.cell? (((⟨b, o, sp⟩ : Addr).add (0 * k)).add 0) = some c := fun h0 => by
        have hl0 := hlen (f 0)
        have h2 : (encD (f 0))[0]? = some ((encD (f 0))[0]'(by omega)) := List.getElem?_eq_getElem (by omega)
        obtain ⟨c, h3, _⟩ := (hf 0 h0).2 0 _ h2
        exact ⟨c, h3⟩
      have hsp : 0 < len → sp = none := fun h0 => by
        cases sp with
        | none => rfl
        | some s =>
          exfalso
          obtain ⟨c, h3⟩ := first h0
          simp only [Addr.add, Nat.zero_mul, if_true, World.cell?] at h3
          split at h3 <;> simp at h3
      have hblk : 0 < len → b < W.heap.size := fun h0 => by
        obtain ⟨c, h3⟩ := first h0
        have := hsp h0
        subst this
        have e : (((⟨b, o, none⟩ : Addr).add (0 * k)).add 0) = ⟨b, o, none⟩ := by unfold Addr.add; simp
        rw [e] at h3
        unfold World.cell? at h3
        by_cases hb : b < W.heap.size
        · exact hb
        · exfalso
          rw [Array.getElem?_eq_none (by show W.heap.size ≤ b; omega)] at h3
          simp at h3
      have hget : ∀ (i : Nat) x, ((List.range len).map f)[i]? = some x → i < len ∧ x = f i := by
        intro i x hx'
        have hi : i < len := by have := (List.getElem?_eq_some_iff.1 hx').1; simpa using this
        rw [List.getElem?_map, List.getElem?_range hi] at hx'
        exact ⟨hi, by simpa [eq_comm] using hx'⟩
      have hat : ∀ (i : Nat) x (j : Nat) d, ((List.range len).map f)[i]? = some x → (encD x)[j]? = some d → ∃ c, W.cell? ⟨b, o + i * k + j, none⟩ = some c ∧ Rep (baseCtx W fun b => b < W.heap.size).still d c := fun i x j d hx' hd => by
        obtain ⟨hi, rfl⟩ := hget i x hx'
        obtain ⟨c, h3, h4⟩ := (hf i hi).2 j d hd
        have := hsp (by omega)
        subst this
        have ea : ((⟨b, o, none⟩ : Addr).add (i * k)).add j = ⟨b, o + i * k + j, none⟩ := by unfold Addr.add; split <;> split <;> simp_all
        rw [ea] at h3
        exact ⟨c, h3, h4⟩
      have hr := Rep.rows (C := baseCtx W fun b => b < W.heap.size) (α := α) (e := k) (enc := encD) (L := (List.range len).map f) (p := some ⟨b, o, sp⟩) (c := cap) b o (fun i j => (W.cell? ⟨b, o + i * k + j, none⟩).getD undef) (by rw [hL]; exact hlc)
        (fun hne => by
          have h0 : 0 < len := by
            rcases Nat.eq_zero_or_pos len with h0 | h0
            · subst h0; exact absurd rfl hne
            · exact h0
          rw [hsp h0]
          exact ⟨rfl, hblk h0⟩)
        (fun i x _ => hlen x)
        (fun i x j d hx' hd => by
          obtain ⟨c, h3, _⟩ := hat i x j d hx' hd
          show W.cell? _ = _
          rw [h3]; rfl)
        (fun i x j d hx' hd => by
          obtain ⟨c, h3, h4⟩ := hat i x j d hx' hd
          rw [h3]; exact h4)
      rw [hL] at hr
      exact hr
    · intro v hv
      obtain ⟨i, hi, rfl⟩ := List.mem_map.1 hv
      exact (hf i (List.mem_range.1 hi)).1
end

section
variable {H : Type} {enc : TypeId × Value → H} {W : World}
def octV (x : Nat) : List Value := [.int .u8 x]
theorem octet_elem {fuel : Nat} {cs : List Value} {x : DataW H × List MemPlace} (h : DataW.trod enc Try.prog W 0 (fun _ => true) true fuel 5 cs = some x) :
    ∃ d : Nat, d < 256 ∧ ∀ (j : Nat) (c : Value), (octV d)[j]? = some c → cs[j]? = some c := by
  obtain ⟨n, rfl, _, hw⟩ := DataW.trod_int Try.underlying5 h
  have := wf_u8 hw
  refine ⟨n.toNat, by omega, fun j c hj => ?_⟩
  unfold octV at hj
  rw [show ((n.toNat : Nat) : Int) = n by omega] at hj
  exact hj
theorem octets_read {fuel : Nat} {sv : Value} {x : DataW H × List MemPlace} (h : DataW.trod enc Try.prog W 0 (fun _ => true) true fuel 39 [sv] = some x) :
    ∃ L : List Nat, Rep (baseCtx W fun b => b < W.heap.size) (octR L) sv ∧ Byt L := by
  obtain ⟨L, h1, h2⟩ := rows_read (encD := octE) (encV := octV) (k := 1) (ok := fun n => n < 256) (fun _ => rfl) Try.underlying39 (by kernel_rfl) (by decide) (fun _ => rfl) (fun _ _ _ h => octet_elem h) h
  exact ⟨L, h1, fun c hc => h2 c hc⟩
theorem rep_still_rows {W : World} {p : Nat → Prop} {α : Type} {e : Nat} {f : α → List D} {L : List α} {v : Value} (h : Rep (baseCtx W p) (.rows α e f L) v) : Rep (baseCtx W p).still (.rows α e f L) v := by
  cases h with
  | rows b o g hc hp hl hcell hrep => exact .rows b o g hc hp hl hcell hrep
theorem rep_int {C : Ctx} {k : IntKind} {a b : Int} (h : a = b) : Rep C (.v (.int k a)) (.int k b) := by rw [h]; exact .v
instance : Inhabited NDe := ⟨⟨0, 0, ⟨0, 0, false, false, 0, 0, 0, 0, 0, [], []⟩, 0, 0, 0, 0, 0, 0, 0, 0, 0, 0, 0, 0, 0, 0, 0⟩⟩
set_option maxRecDepth 100000 in
set_option maxHeartbeats 2000000 in
theorem cfgw_read {base : Nat} {v : Value} {d : DataW H} {ps : List MemPlace} (hval : Value.okWide Try.prog W .any base 33 v) (h : DataW.Trod enc Try.prog W 0 (fun _ => true) true 33 v d ps) :
    ∃ c : Nat → Int, Rep (baseCtx W fun b => b < W.heap.size) (.agg (cfgC c)) v ∧ cfgW c := by
  obtain ⟨cs, rfl, hn⟩ := okWide_struct Try.underlying33 hval
  obtain ⟨fuel, hf⟩ := h
  have hn2 : cs.size = 40 := hn.trans (by kernel_rfl)
  simp only [Value.cells] at hf
  obtain ⟨z0, h0, w0⟩ := trod_cell_int (d := 5) (off := 0) (k := .u8) hf (by kernel_rfl) Try.underlying5
  obtain ⟨z1, h1, w1⟩ := trod_cell_int (d := 5) (off := 1) (k := .u8) hf (by kernel_rfl) Try.underlying5
  obtain ⟨z2, h2, w2⟩ := trod_cell_int (d := 5) (off := 2) (k := .u8) hf (by kernel_rfl) Try.underlying5
  obtain ⟨z3, h3, w3⟩ := trod_cell_int (d := 5) (off := 3) (k := .u8) hf (by kernel_rfl) Try.underlying5
  obtain ⟨z4, h4, w4⟩ := trod_cell_int (d := 5) (off := 4) (k := .u8) hf (by kernel_rfl) Try.underlying5
  obtain ⟨z5, h5, w5⟩ := trod_cell_int (d := 5) (off := 5) (k := .u8) hf (by kernel_rfl) Try.underlying5
  obtain ⟨z6, h6, w6⟩ := trod_cell_int (d := 5) (off := 6) (k := .u8) hf (by kernel_rfl) Try.underlying5
  obtain ⟨z7, h7, w7⟩ := trod_cell_int (d := 5) (off := 7) (k := .u8) hf (by kernel_rfl) Try.underlying5
  obtain ⟨z8, h8, w8⟩ := trod_cell_int (d := 5) (off := 8) (k := .u8) hf (by kernel_rfl) Try.underlying5
  obtain ⟨z9, h9, w9⟩ := trod_cell_int (d := 5) (off := 9) (k := .u8) hf (by kernel_rfl) Try.underlying5
  obtain ⟨z10, h10, w10⟩ := trod_cell_int (d := 5) (off := 10) (k := .u8) hf (by kernel_rfl) Try.underlying5
  obtain ⟨z11, h11, w11⟩ := trod_cell_int (d := 5) (off := 11) (k := .u8) hf (by kernel_rfl) Try.underlying5
  obtain ⟨z12, h12, w12⟩ := trod_cell_int (d := 5) (off := 12) (k := .u32) hf (by kernel_rfl) Try.underlying25
  obtain ⟨z13, h13, w13⟩ := trod_cell_int (d := 5) (off := 13) (k := .u32) hf (by kernel_rfl) Try.underlying25
  obtain ⟨z14, h14, w14⟩ := trod_cell_int (d := 5) (off := 14) (k := .i64) hf (by kernel_rfl) Try.underlying3
  obtain ⟨z15, h15, w15⟩ := trod_cell_int (d := 5) (off := 15) (k := .i64) hf (by kernel_rfl) Try.underlying3
  obtain ⟨z16, h16, w16⟩ := trod_cell_int (d := 5) (off := 16) (k := .u32) hf (by kernel_rfl) Try.underlying25
  obtain ⟨z17, h17, w17⟩ := trod_cell_int (d := 5) (off := 17) (k := .i64) hf (by kernel_rfl) Try.underlying3
  obtain ⟨z18, h18, w18⟩ := trod_cell_int (d := 5) (off := 18) (k := .u64) hf (by kernel_rfl) Try.underlying28
  obtain ⟨z19, h19, w19⟩ := trod_cell_int (d := 5) (off := 19) (k := .u64) hf (by kernel_rfl) Try.underlying28
  obtain ⟨z20, h20, w20⟩ := trod_cell_int (d := 5) (off := 20) (k := .u64) hf (by kernel_rfl) Try.underlying28
  obtain ⟨z21, h21, w21⟩ := trod_cell_int (d := 5) (off := 21) (k := .u64) hf (by kernel_rfl) Try.underlying28
  obtain ⟨z22, h22, w22⟩ := trod_cell_int (d := 5) (off := 22) (k := .u16) hf (by kernel_rfl) Try.underlying31
  obtain ⟨z23, h23, w23⟩ := trod_cell_int (d := 5) (off := 23) (k := .i64) hf (by kernel_rfl) Try.underlying3
  obtain ⟨z24, h24, w24⟩ := trod_cell_int (d := 5) (off := 24) (k := .i64) hf (by kernel_rfl) Try.underlying3
  obtain ⟨z25, h25, w25⟩ := trod_cell_int (d := 5) (off := 25) (k := .i64) hf (by kernel_rfl) Try.underlying3
  obtain ⟨z26, h26, w26⟩ := trod_cell_int (d := 5) (off := 26) (k := .i64) hf (by kernel_rfl) Try.underlying3
  obtain ⟨z27, h27, w27⟩ := trod_cell_int (d := 5) (off := 27) (k := .i64) hf (by kernel_rfl) Try.underlying3
  obtain ⟨z28, h28, w28⟩ := trod_cell_int (d := 5) (off := 28) (k := .i64) hf (by kernel_rfl) Try.underlying3
  obtain ⟨z29, h29, w29⟩ := trod_cell_int (d := 5) (off := 29) (k := .i64) hf (by kernel_rfl) Try.underlying3
  obtain ⟨z30, h30, w30⟩ := trod_cell_int (d := 5) (off := 30) (k := .i64) hf (by kernel_rfl) Try.underlying3
  obtain ⟨z31, h31, w31⟩ := trod_cell_int (d := 5) (off := 31) (k := .i64) hf (by kernel_rfl) Try.underlying3
  obtain ⟨z32, h32, w32⟩ := trod_cell_int (d := 5) (off := 32) (k := .i64) hf (by kernel_rfl) Try.underlying3
  obtain ⟨z33, h33, w33⟩ := trod_cell_int (d := 5) (off := 33) (k := .i64) hf (by kernel_rfl) Try.underlying3
  obtain ⟨z34, h34, w34⟩ := trod_cell_int (d := 5) (off := 34) (k := .i64) hf (by kernel_rfl) Try.underlying3
  obtain ⟨z35, h35, w35⟩ := trod_cell_int (d := 5) (off := 35) (k := .i64) hf (by kernel_rfl) Try.underlying3
  obtain ⟨z36, h36, w36⟩ := trod_cell_int (d := 5) (off := 36) (k := .i64) hf (by kernel_rfl) Try.underlying3
  obtain ⟨z37, h37, w37⟩ := trod_cell_int (d := 5) (off := 37) (k := .i64) hf (by kernel_rfl) Try.underlying3
  obtain ⟨z38, h38, w38⟩ := trod_cell_int (d := 5) (off := 38) (k := .i64) hf (by kernel_rfl) Try.underlying3
  obtain ⟨z39, h39, w39⟩ := trod_cell_int (d := 5) (off := 39) (k := .i64) hf (by kernel_rfl) Try.underlying3
  refine ⟨fun i => [z0, z1, z2, z3, z4, z5, z6, z7, z8, z9, z10, z11, z12, z13, z14, z15, z16, z17, z18, z19, z20, z21, z22, z23, z24, z25, z26, z27, z28, z29, z30, z31, z32, z33, z34, z35, z36, z37, z38, z39].getD i 0, .agg hn2 fun j d u hj hu => ?_, fun i k hk => ?_⟩
  · rw [← Array.getElem?_toList] at hu
    match j, hj with
    | 0, hj => injection hj with hj; subst hj; rw [h0] at hu; injection hu with hu; subst hu; exact .v
    | 1, hj => injection hj with hj; subst hj; rw [h1] at hu; injection hu with hu; subst hu; exact .v
    | 2, hj => injection hj with hj; subst hj; rw [h2] at hu; injection hu with hu; subst hu; exact .v
    | 3, hj => injection hj with hj; subst hj; rw [h3] at hu; injection hu with hu; subst hu; exact .v
    | 4, hj => injection hj with hj; subst hj; rw [h4] at hu; injection hu with hu; subst hu; exact .v
    | 5, hj => injection hj with hj; subst hj; rw [h5] at hu; injection hu with hu; subst hu; exact .v
    | 6, hj => injection hj with hj; subst hj; rw [h6] at hu; injection hu with hu; subst hu; exact .v
    | 7, hj => injection hj with hj; subst hj; rw [h7] at hu; injection hu with hu; subst hu; exact .v
    | 8, hj => injection hj with hj; subst hj; rw [h8] at hu; injection hu with hu; subst hu; exact .v
    | 9, hj => injection hj with hj; subst hj; rw [h9] at hu; injection hu with hu; subst hu; exact .v
    | 10, hj => injection hj with hj; subst hj; rw [h10] at hu; injection hu with hu; subst hu; exact .v
    | 11, hj => injection hj with hj; subst hj; rw [h11] at hu; injection hu with hu; subst hu; exact .v
    | 12, hj => injection hj with hj; subst hj; rw [h12] at hu; injection hu with hu; subst hu; exact .v
    | 13, hj => injection hj with hj; subst hj; rw [h13] at hu; injection hu with hu; subst hu; exact .v
    | 14, hj => injection hj with hj; subst hj; rw [h14] at hu; injection hu with hu; subst hu; exact .v
    | 15, hj => injection hj with hj; subst hj; rw [h15] at hu; injection hu with hu; subst hu; exact .v
    | 16, hj => injection hj with hj; subst hj; rw [h16] at hu; injection hu with hu; subst hu; exact .v
    | 17, hj => injection hj with hj; subst hj; rw [h17] at hu; injection hu with hu; subst hu; exact .v
    | 18, hj => injection hj with hj; subst hj; rw [h18] at hu; injection hu with hu; subst hu; exact .v
    | 19, hj => injection hj with hj; subst hj; rw [h19] at hu; injection hu with hu; subst hu; exact .v
    | 20, hj => injection hj with hj; subst hj; rw [h20] at hu; injection hu with hu; subst hu; exact .v
    | 21, hj => injection hj with hj; subst hj; rw [h21] at hu; injection hu with hu; subst hu; exact .v
    | 22, hj => injection hj with hj; subst hj; rw [h22] at hu; injection hu with hu; subst hu; exact .v
    | 23, hj => injection hj with hj; subst hj; rw [h23] at hu; injection hu with hu; subst hu; exact .v
    | 24, hj => injection hj with hj; subst hj; rw [h24] at hu; injection hu with hu; subst hu; exact .v
    | 25, hj => injection hj with hj; subst hj; rw [h25] at hu; injection hu with hu; subst hu; exact .v
    | 26, hj => injection hj with hj; subst hj; rw [h26] at hu; injection hu with hu; subst hu; exact .v
    | 27, hj => injection hj with hj; subst hj; rw [h27] at hu; injection hu with hu; subst hu; exact .v
    | 28, hj => injection hj with hj; subst hj; rw [h28] at hu; injection hu with hu; subst hu; exact .v
    | 29, hj => injection hj with hj; subst hj; rw [h29] at hu; injection hu with hu; subst hu; exact .v
    | 30, hj => injection hj with hj; subst hj; rw [h30] at hu; injection hu with hu; subst hu; exact .v
    | 31, hj => injection hj with hj; subst hj; rw [h31] at hu; injection hu with hu; subst hu; exact .v
    | 32, hj => injection hj with hj; subst hj; rw [h32] at hu; injection hu with hu; subst hu; exact .v
    | 33, hj => injection hj with hj; subst hj; rw [h33] at hu; injection hu with hu; subst hu; exact .v
    | 34, hj => injection hj with hj; subst hj; rw [h34] at hu; injection hu with hu; subst hu; exact .v
    | 35, hj => injection hj with hj; subst hj; rw [h35] at hu; injection hu with hu; subst hu; exact .v
    | 36, hj => injection hj with hj; subst hj; rw [h36] at hu; injection hu with hu; subst hu; exact .v
    | 37, hj => injection hj with hj; subst hj; rw [h37] at hu; injection hu with hu; subst hu; exact .v
    | 38, hj => injection hj with hj; subst hj; rw [h38] at hu; injection hu with hu; subst hu; exact .v
    | 39, hj => injection hj with hj; subst hj; rw [h39] at hu; injection hu with hu; subst hu; exact .v
    | n + 40, hj => simp [cfgC] at hj
  · match i, hk with
    | 0, hk => injection hk with hk; subst hk; exact w0
    | 1, hk => injection hk with hk; subst hk; exact w1
    | 2, hk => injection hk with hk; subst hk; exact w2
    | 3, hk => injection hk with hk; subst hk; exact w3
    | 4, hk => injection hk with hk; subst hk; exact w4
    | 5, hk => injection hk with hk; subst hk; exact w5
    | 6, hk => injection hk with hk; subst hk; exact w6
    | 7, hk => injection hk with hk; subst hk; exact w7
    | 8, hk => injection hk with hk; subst hk; exact w8
    | 9, hk => injection hk with hk; subst hk; exact w9
    | 10, hk => injection hk with hk; subst hk; exact w10
    | 11, hk => injection hk with hk; subst hk; exact w11
    | 12, hk => injection hk with hk; subst hk; exact w12
    | 13, hk => injection hk with hk; subst hk; exact w13
    | 14, hk => injection hk with hk; subst hk; exact w14
    | 15, hk => injection hk with hk; subst hk; exact w15
    | 16, hk => injection hk with hk; subst hk; exact w16
    | 17, hk => injection hk with hk; subst hk; exact w17
    | 18, hk => injection hk with hk; subst hk; exact w18
    | 19, hk => injection hk with hk; subst hk; exact w19
    | 20, hk => injection hk with hk; subst hk; exact w20
    | 21, hk => injection hk with hk; subst hk; exact w21
    | 22, hk => injection hk with hk; subst hk; exact w22
    | 23, hk => injection hk with hk; subst hk; exact w23
    | 24, hk => injection hk with hk; subst hk; exact w24
    | 25, hk => injection hk with hk; subst hk; exact w25
    | 26, hk => injection hk with hk; subst hk; exact w26
    | 27, hk => injection hk with hk; subst hk; exact w27
    | 28, hk => injection hk with hk; subst hk; exact w28
    | 29, hk => injection hk with hk; subst hk; exact w29
    | 30, hk => injection hk with hk; subst hk; exact w30
    | 31, hk => injection hk with hk; subst hk; exact w31
    | 32, hk => injection hk with hk; subst hk; exact w32
    | 33, hk => injection hk with hk; subst hk; exact w33
    | 34, hk => injection hk with hk; subst hk; exact w34
    | 35, hk => injection hk with hk; subst hk; exact w35
    | 36, hk => injection hk with hk; subst hk; exact w36
    | 37, hk => injection hk with hk; subst hk; exact w37
    | 38, hk => injection hk with hk; subst hk; exact w38
    | 39, hk => injection hk with hk; subst hk; exact w39
    | n + 40, hk => simp [confKs] at hk
end
end Go.Proofs.Ytfepckbhnghpeaa.V
