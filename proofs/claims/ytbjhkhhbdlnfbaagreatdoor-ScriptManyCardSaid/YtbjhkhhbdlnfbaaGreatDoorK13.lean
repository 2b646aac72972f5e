/-
  Builders of strings: append of a string to a row of bytes, the bytes of a row as a string (the row is none of one's own any more). Condition: the table of types says what the program's says.
  A builder of strings: its copy check, by the shelf. No condition.
-/
import Derived.Test.YtbjhkhhbdlnfbaaGreatDoorK4
import Derived.Lib.AppendStr
import Derived.Lib.UnsafeStr
import Derived.Test.YtbjhkhhbdlnfbaaGreatDoorK5
namespace Go.Proofs.YtbjhkhhbdlnfbaaGreatDoor.V
open Go.RowKit

abbrev encB : Int → List D := fun n => [.v (.int .u8 n)]
def bytesI (b : ByteArray) : List Int := b.data.toList.map fun x => (x.toNat : Int)
theorem bytesI_len (b : ByteArray) : (bytesI b).length = b.size := by
  unfold bytesI
  rw [List.length_map, Array.length_toList]; rfl
theorem bytesI_cells (b : ByteArray) : Lib.strCells b = (bytesI b).map (Value.int .u8) := by
  unfold Lib.strCells bytesI
  rw [List.map_map]; rfl

section
variable {P : Program} {tt : TT} {E : Env} {s : St} {σ : Nat → Nat} {τ : Nat → Value} {a : Act} {w : World}

theorem owned_gone {r : Nat} {j n : Nat} (h : owned ((r, .dead) :: s.H) σ τ j n) : owned s.H σ τ j n ∧ j ≠ r := by
  by_cases hj : j = r
  · subst hj
    rcases h with ⟨el', l', h1, _⟩ | ⟨α, el', e, enc, L, h1, _⟩ | ⟨o, h1, _⟩ <;> (rw [lget_same] at h1; cases h1)
  · refine ⟨?_, hj⟩
    rcases h with ⟨el', l', h1, h2⟩ | ⟨α, el', e, enc, L, h1, h2⟩ | ⟨o, h1, h2⟩
    · rw [lget_ne _ _ hj] at h1; exact .inl ⟨_, _, h1, h2⟩
    · rw [lget_ne _ _ hj] at h1; exact .inr (.inl ⟨_, _, _, _, _, h1, h2⟩)
    · rw [lget_ne _ _ hj] at h1; exact .inr (.inr ⟨_, h1, h2⟩)

theorem kill_state (hs : SR E s σ τ a w) {r g : Nat} (hr : owned s.H σ τ r g) {w' : World} (hos : w'.os = w.os) (htape : w'.tape = w.tape) (hout : w'.output = w.output) (hsz : w'.heap.size = w.heap.size) (hdr : w.drawn ≤ w'.drawn) (hblk : ∀ k, k ≠ g → w'.heap[k]? = w.heap[k]?) :
    SR E ⟨s.F, (r, .dead) :: s.H, s.nx, s.G⟩ σ τ a w' := by
  have hmine : E.mine g := by
    rcases hr with ⟨el, l, h1, rfl⟩ | ⟨α, el, e, enc, L, h1, h2⟩ | ⟨o, h1, h2⟩
    · exact (hs.heap.cells r el l h1).1
    · exact (hs.heap.grow r α el e enc L h1).1 g h2
    · exact ((hs.heap.obj r o h1).1 g h2).1
  have hne : ∀ j k, owned ((r, .dead) :: s.H) σ τ j k → k ≠ g := fun j k h e => by
    obtain ⟨h1, h2⟩ := owned_gone h
    subst e
    exact h2 (hs.heap.apart j r k h1 hr)
  have hle : (ctxOf E s.H s.nx σ τ w).Le (ctxOf E ((r, .dead) :: s.H) s.nx σ τ w') := by
    refine ⟨fun k o hk ho => ?_, fun k hk => ⟨hk.1, by show k < w'.heap.size; rw [hsz]; exact hk.2.1, fun j ho => hk.2.2 j (owned_gone ho).1⟩, fun _ _ _ h => h, fun _ _ h => h, fun _ _ _ h => h⟩
    have : k ≠ g := fun e => by subst e; exact hk.2.2 r hr
    exact (hblk k this).trans ho
  refine ⟨⟨⟨hos.trans hs.heap.kept.os, htape.trans hs.heap.kept.tape, hout.trans hs.heap.kept.output, by rw [hsz]; exact hs.heap.kept.size, fun k hk hn => ?_, Nat.le_trans hs.heap.kept.drawn hdr⟩, hs.heap.few, fun j el l h => ?_, fun j α el e enc L h => ?_, fun i j k h1 h2 => hs.heap.apart i j k (owned_gone h1).1 (owned_gone h2).1, fun j o h => ?_, hs.heap.slices, fun j o h => ?_⟩, hs.defers, hs.size, fun i d h => (hs.slots i d h).mono hle, hs.ghost_le (s' := ⟨s.F, (r, .dead) :: s.H, s.nx, s.G⟩) rfl hle, hs.room⟩
  · refine (hblk k fun e => ?_).trans (hs.heap.kept.block k hk hn)
    subst e
    rcases hmine with h | h
    · exact hn h
    · omega
  · have hj : j ≠ r := by rintro rfl; rw [lget_same] at h; cases h
    rw [lget_ne _ _ hj] at h
    obtain ⟨h1, c, h2, h3, h4⟩ := hs.heap.cells j el l h
    exact ⟨h1, c, (hblk _ (hne j _ (.inl ⟨_, _, by rw [lget_ne _ _ hj]; exact h, rfl⟩))).trans h2, h3, fun q d u hd hu => (h4 q d u hd hu).mono hle⟩
  · have hj : j ≠ r := by rintro rfl; rw [lget_same] at h; cases h
    rw [lget_ne _ _ hj] at h
    obtain ⟨h1, xs, ⟨h2, h2'⟩, h3, h4⟩ := hs.heap.grow j α el e enc L h
    refine ⟨h1, xs, ⟨h2, ?_⟩, h3, fun q x y d u hx hd hu => (h4 q x y d u hx hd hu).mono hle.still⟩
    rcases h2' with h2' | ⟨g', cap, cur, q1, q2, q3, q4⟩
    · exact .inl h2'
    · exact .inr ⟨g', cap, cur, q1, q2, (hblk _ (hne j _ (.inr (.inl ⟨_, _, _, _, _, by rw [lget_ne _ _ hj]; exact h, by rw [q1]; rfl⟩)))).trans q3, q4⟩
  · by_cases hj : j = r
    · subst hj
      rcases hr with ⟨el, l, h1, _⟩ | ⟨α, el, e, enc, L, h1, _⟩ | ⟨o, h1, _⟩ <;> exact hs.heap.below j _ h1
    · rw [lget_ne _ _ hj] at h; exact hs.heap.below j o h
  · have hj : j ≠ r := by rintro rfl; rw [lget_same] at h; cases h
    rw [lget_ne _ _ hj] at h
    obtain ⟨h1, h2⟩ := hs.heap.obj j o h
    exact ⟨fun k hk => ⟨(h1 k hk).1, by rw [hsz]; exact (h1 k hk).2⟩, OA.at_le h2 (fun k hk => hblk k (hne j k (.inr (.inr ⟨_, by rw [lget_ne _ _ hj]; exact h, hk⟩)))) hle.still⟩

theorem op_appendStr (htt : ttOk P tt) {o : Oper} {x y : Operand} {t u el : TypeId} {sz by_ : Nat} {zz : List Value} {c1 c2 c3} {old L : List Int} {b : ByteArray} (ho : o.op = .call { callee := .builtin .append, args := #[x, y], argTypes := #[t, u] }) (ht : tfind tt t = some ⟨.slice el, sz, by_, zz⟩) (he : tfind tt el = some ⟨.int .u8, 1, 1, [.int .u8 0]⟩)
    (hu : tfind tt u = some ⟨.str, c1, c2, c3⟩) (hx : ownRows s el 1 (evD s x) = some (old.map encB)) (hy : evD s y = .v (.string b)) (hz : (P.info? el).map (fun i => i.zero) = some (some (.int .u8 0))) (hL : L = old ++ bytesI b) (hb0 : 0 < b.size) (hb : L.length ≤ 1099511627776) {K : D → St → Prop} (h : K (.grow s.nx) ⟨s.F, (s.nx, .grow Int el 1 encB L) :: killD (evD s x) s.H, s.nx + 1, s.G⟩) : OpVC P false o s K := by
  intro E σ τ a w hs next Q hn
  subst hL
  obtain ⟨de, i, z, k1, _, _, k4, _⟩ := view_spec (tfind_view htt ht)
  have := ud_slice k4; subst this
  obtain ⟨_, q, zv, q1, q2, q3, q4, q5, q6, q7⟩ := view_spec (tfind_view htt he)
  obtain ⟨_, _, _, r1, _, _, r4, _⟩ := view_spec (tfind_view htt hu)
  have := ud_str r4; subst this
  have hzv : q.zero = some (.int .u8 0) := by
    rw [q2] at hz
    simpa using hz
  have q6' : q.bytes = 1 := q6
  have hxr := evD_rep hs x
  have hyr := evD_rep hs y
  rw [hy] at hyr
  have hyv := rep_v hyr
  obtain ⟨xs, hown, _, hmine, horep, hcase⟩ := own_spec hs hx hxr
  rw [List.length_map] at hown
  have hml : (maxLen : Nat) = 9223372036854775807 := by decide
  rw [List.length_append, bytesI_len] at hb
  obtain ⟨v', w', g1, g2, g3, g4⟩ := Lib.run_append_own_string (P := P) w 0 t u o.type el q k1 r1 q2 hzv q5 q6 (a.eval x) old.length xs hown b (by rw [hml]; omega) (by omega) (Nat.zero_le _)
  have hmap : ((old ++ bytesI b).map encB) = old.map encB ++ (bytesI b).map encB := List.map_append
  have hxl : xs.length = old.length := by have := hown.1; omega
  have hlen : old.length + b.size = (old ++ bytesI b).length := by rw [List.length_append, bytesI_len]
  rw [hlen] at g2
  have slc : ∃ p l c, v' = .slice p l c := by
    rcases g2.2 with ⟨h1, _⟩ | ⟨_, _, _, h1, _⟩ <;> exact ⟨_, _, _, h1⟩
  have hob : v'.ownBlock = none ∨ v'.ownBlock = (a.eval x).ownBlock ∨ v'.ownBlock = some w.heap.size := by
    have hxl0 : xs.length = old.length * q.size := by rw [q5, Nat.mul_one]; exact hxl
    rcases hown.2 with ⟨hv, h0⟩ | ⟨g, cap, cur, hv, _, hg, hnc, _, hcs, htake⟩
    · have hr := run_append_nil_string (P := P) w t u o.type el q (.int .u8 0) k1 r1 q2 hzv b (by omega) (by omega) (by rw [q6']; omega)
      rw [hv, hr] at g1
      injection g1 with e1 _
      exact .inr (.inr (by rw [← e1]; rfl))
    · by_cases hroom : old.length + b.size ≤ cap
      · have hr := Lib.run_append_room_string (P := P) w t u o.type el q k1 r1 q2 q5 g old.length cap cur hg b hroom (by omega)
        rw [hv, hr] at g1
        injection g1 with e1 _
        exact .inr (.inl (by rw [← e1, hv]; rfl))
      · have hr := Lib.run_append_grow_string (P := P) w t u o.type el q (.int .u8 0) k1 r1 q2 hzv ⟨g, 0, none⟩ old.length cap xs hxl0 (fun j u hj => hown.cells (g := g) (by rw [hv]; rfl) j u hj) b (by omega) (by omega) (by rw [q6']; exact growslice_fits (by omega) (by omega))
        rw [hv, hr] at g1
        injection g1 with e1 _
        exact .inr (.inr (by rw [← e1]; rfl))
  obtain ⟨F, H, nx, G⟩ := s
  obtain ⟨τ', r6, r7⟩ := grow_state hs hx hxr (run_mono _ _ _ _ g1) g3 hob slc (β := Int) (enc := encB) (L := old ++ bytesI b) g2 (fun _ _ _ => rfl) (fun i n j d v h1 h2 h3 => by
    match j, h2 with
    | 0, h2 =>
      injection h2 with h2; subst h2
      rw [Nat.mul_one, Nat.add_zero] at h3
      by_cases hi : i < old.length
      · rw [List.getElem?_append_left (by omega)] at h3
        rw [List.getElem?_append_left hi] at h1
        exact horep i (encB n) 0 _ v (by rw [List.getElem?_map, h1]; rfl) rfl (by rw [Nat.mul_one, Nat.add_zero]; exact h3)
      · rw [List.getElem?_append_right (by omega), hxl, bytesI_cells, List.getElem?_map] at h3
        rw [List.getElem?_append_right (by omega)] at h1
        rw [h1] at h3
        injection h3 with h3; subst h3
        exact .v
    | _ + 1, h2 => simp at h2)
  have hexec : (execOp a.eval o).run P w = .ok (.value v') w' := by
    simp [execOp, ho, resolve, invoke, builtin, hyv, g1]
  unfold Oper.wp
  rw [hexec]
  exact hn _ _ _ _ _ _ h r6 (.grow ⟨Nat.lt_succ_self _, r7.symm⟩) (fun h => by cases h)

theorem op_unsafeData {g : Bool} {o : Oper} {x : Operand} {t el : TypeId} {r : Nat} {L : List Int} (ho : o.op = .call { callee := .builtin .unsafeSliceData, args := #[x], argTypes := #[t] }) (hx : evD s x = .grow r) (hid : lget s.H r = some (.grow Int el 1 encB L)) (h0 : 0 < L.length) {K : D → St → Prop} (h : K (.op r 1 0 0) s) : OpVC P g o s K := by
  intro E σ τ a w hs next Q hn
  have hxr := evD_rep hs x
  rw [hx] at hxr
  generalize hxv : a.eval x = xv at hxr
  cases hxr with
  | grow hg =>
    obtain ⟨hlt, rfl⟩ := hg
    obtain ⟨_, xs, ⟨hxl, hown⟩, _, _⟩ := hs.heap.grow r _ _ _ _ _ hid
    rcases hown with ⟨_, hn0⟩ | ⟨b, cap, cur, hv, _, hb, hnc, _, hcs, _⟩
    · omega
    · have hrun := Lib.run_unsafeSliceData_row (P := P) w #[t] o.type ⟨b, 0, none⟩ L.length cap (by omega)
      have hexec : (execOp a.eval o).run P w = .ok (.value (.pointer (some ⟨b, 0, none⟩))) w := by
        simp [execOp, ho, resolve, invoke, builtin, hxv, hv, hrun]
      unfold Oper.wp
      rw [hexec]
      exact hn _ _ _ _ _ _ h hs (.op ⟨hlt, by rw [hv]; rfl⟩) (fun _ => Below.refl _ _)

theorem op_unsafeString {o : Oper} {x y : Operand} {pt it el : TypeId} {r : Nat} {b : ByteArray} (ho : o.op = .call { callee := .builtin .unsafeString, args := #[x, y], argTypes := #[pt, it] }) (hx : evD s x = .op r 1 0 0) (hy : evD s y = .v (.int .i64 ((bytesI b).length : Nat))) (hid : lget s.H r = some (.grow Int el 1 encB (bytesI b)))
    (h0 : 0 < b.size) (hpt : P.underlying pt = some (.pointer el)) (hce : P.cellsOf el = 1) {K : D → St → Prop} (h : K (.v (.string b)) ⟨s.F, (r, .dead) :: s.H, s.nx, s.G⟩) : OpVC P false o s K := by
  intro E σ τ a w hs next Q hn
  have hxr := evD_rep hs x
  rw [hx] at hxr
  have hyr := evD_rep hs y
  rw [hy] at hyr
  have hyv := rep_v hyr
  generalize hxv : a.eval x = xv at hxr
  cases hxr with
  | op hg =>
    obtain ⟨hlt, rfl⟩ := hg
    obtain ⟨_, xs, ⟨hxl, hown⟩, _, hrep⟩ := hs.heap.grow r _ _ _ _ _ hid
    rcases hown with ⟨_, hn0⟩ | ⟨g, cap, cur, hv, _, hb, hnc, hmx, hcs, htk⟩
    · rw [bytesI_len] at hn0; omega
    · have hlen := bytesI_len b
      have hdl : b.data.toList.length = b.size := by rw [Array.length_toList]; rfl
      have hcell : ∀ (j : Nat) (x : UInt8), b.data.toList[j]? = some x → w.cell? ((⟨g, 0, none⟩ : Addr).add j) = some (.int .u8 x.toNat) := fun j x hj => by
        have hjl := (List.getElem?_eq_some_iff.1 hj).1
        have hL : (bytesI b)[j]? = some (x.toNat : Int) := by unfold bytesI; rw [List.getElem?_map, hj]; rfl
        obtain ⟨u, hu⟩ : ∃ u, xs[j]? = some u := ⟨_, List.getElem?_eq_getElem (by rw [hxl]; omega)⟩
        have h1 := rep_v (hrep j _ 0 (.v (.int .u8 (x.toNat : Int))) u hL rfl (by rw [Nat.mul_one, Nat.add_zero]; exact hu))
        subst h1
        rw [addr_add]
        show w.cell? ⟨g, 0 + j, none⟩ = _
        rw [Nat.zero_add]
        rw [← htk, List.getElem?_take_of_lt (by omega)] at hu
        simp only [World.cell?, hb]
        simpa using hu
      have hml : (maxLen : Nat) = 9223372036854775807 := by decide
      have h63 : b.data.toList.length ≤ 9223372036854775807 := by omega
      have hrun := Lib.run_unsafeString_row (P := P) w pt it o.type el hpt hce g cur.size (by simp [World.shape?, hb]) b.data.toList (fun e => by rw [e] at hdl; simp at hdl; omega) (by omega) h63 hcell
      have hob : (τ r).ownBlock = some g := by rw [hv]; rfl
      have hxv2 : a.eval x = .pointer (some ⟨g, 0, none⟩) := by rw [hxv, hob]; rfl
      have hexec : (execOp a.eval o).run P w = .ok (.value (.string b)) (w.freeze ⟨g, 0, none⟩ b.size) := by
        rw [hdl] at hrun
        simp only [execOp, ho, resolve, invoke, builtin]
        simp [hxv2, hyv, hlen, hrun]
      unfold Oper.wp
      rw [hexec]
      refine hn _ _ _ _ _ _ h (kill_state (g := g) hs (.inr (.inl ⟨_, _, _, _, _, hid, hob⟩)) ?_ ?_ ?_ ?_ ?_ fun k hk => ?_) .v (fun h => by cases h)
      all_goals unfold World.freeze; rw [if_neg (by omega)]
      · simp
      · exact Nat.le_refl _
      · simp only [Array.getElem?_modify]
        rw [if_neg (fun e => hk e.symm)]

theorem op_unsafeDataNil {g : Bool} {o : Oper} {x : Operand} {t : TypeId} (ho : o.op = .call { callee := .builtin .unsafeSliceData, args := #[x], argTypes := #[t] }) (hx : evD s x = .v (.slice none 0 0)) {K : D → St → Prop} (h : K (.v (.pointer none)) s) : OpVC P g o s K := by
  intro E σ τ a w hs next Q hn
  have hxr := evD_rep hs x
  rw [hx] at hxr
  have hxv := rep_v hxr
  have hrun := Lib.run_unsafeSliceData_nil (P := P) w #[t] o.type 0 0
  have hexec : (execOp a.eval o).run P w = .ok (.value (.pointer none)) w := by
    simp [execOp, ho, resolve, invoke, builtin, hxv, hrun]
  unfold Oper.wp
  rw [hexec]
  exact hn _ _ _ _ _ _ h hs .v (fun _ => Below.refl _ _)
theorem op_unsafeStringNil {o : Oper} {x y : Operand} {pt it : TypeId} (ho : o.op = .call { callee := .builtin .unsafeString, args := #[x, y], argTypes := #[pt, it] }) (hx : evD s x = .v (.pointer none)) (hy : evD s y = .v (.int .i64 0)) {K : D → St → Prop} (h : K (.v (.string .empty)) s) : OpVC P false o s K := by
  intro E σ τ a w hs next Q hn
  have hxr := evD_rep hs x
  rw [hx] at hxr
  have hxv := rep_v hxr
  have hyr := evD_rep hs y
  rw [hy] at hyr
  have hyv := rep_v hyr
  have hrun := Lib.run_unsafeString_none (P := P) w pt it o.type none
  have hexec : (execOp a.eval o).run P w = .ok (.value (.string .empty)) w := by
    simp [execOp, ho, resolve, invoke, builtin, hxv, hyv, hrun]
  unfold Oper.wp
  rw [hexec]
  exact hn _ _ _ _ _ _ h hs .v (fun _ => Below.refl _ _)
end
end Go.Proofs.YtbjhkhhbdlnfbaaGreatDoor.V
namespace Go.Proofs.YtbjhkhhbdlnfbaaGreatDoor.V
open Go.RowKit Go.Shelf

abbrev bldT : TypeId := 88
theorem copyCheck_vc {id : Nat} {d1 d0 : D} {s : St} {K : D → St → Prop} (hid : lget s.H id = some (.cells bldT [d0, d1])) (hd : d0 = .v (.pointer none) ∨ d0 = .loc id 0) (h : K (.tup []) ⟨s.F, (id, .cells bldT [.loc id 0, d1]) :: s.H, s.nx, s.G⟩) :
    CallVC Tryz.prog false 54 [.loc id 0] s K := by
  refine ⟨⟨_, Tryz.func54, rfl⟩, fun E σ τ a w args' hs hr => ?_⟩
  match args', hr with
  | [], hr => have := hr.1; simp at this
  | _ :: _ :: _, hr => have := hr.1; simp at this
  | [v0], hr =>
  obtain ⟨hlt, hv0⟩ := loc_val (hr.2 0 (.loc id 0) v0 rfl rfl)
  subst hv0
  obtain ⟨_, c, hc, hcs, hcr⟩ := hs.heap.cells id _ _ hid
  have hb : σ id < w.heap.size := (Array.getElem?_eq_some_iff.1 hc).1
  obtain ⟨c0, c1, rfl⟩ : ∃ c0 c1, c = #[c0, c1] := by
    have h2 : c.size = 2 := hcs
    refine ⟨c[0], c[1], ?_⟩
    apply Array.ext (by simp [h2])
    intro i hi1 hi2
    match i, hi1 with
    | 0, _ => rfl
    | 1, _ => rfl
    | n + 2, hi1 => omega
  have r0 := hcr 0 d0 c0 rfl rfl
  have r1 := hcr 1 d1 c1 rfl rfl
  have hptr : Rep (ctxOf E s.H s.nx σ τ w) (.loc id 0) (.pointer (some ⟨σ id, 0, none⟩)) := .loc ⟨hlt, rfl⟩
  have hreps : reps (ctxOf E s.H s.nx σ τ w) [.loc id 0, d1] (#[.pointer (some ⟨σ id, 0, none⟩), c1] : Array Value).toList := reps_cons hptr (reps_cons r1 reps_nil)
  rcases hd with rfl | rfl
  · have e0 := rep_v r0
    subst e0
    have hfz : w.frozen? ⟨σ id, 0, none⟩ = false := by simp [World.frozen?, hc]
    refine (Any.Builder_copyCheck_fresh { lays156 with } Builder_Extra_156.toX72 (σ id) w (by simp [World.cell?, hc]) (by simp only [World.shape?, hc]; rfl) hfz).mono fun e w' ⟨h1, h2⟩ => ?_
    subst h2
    have hset : w.setCell ⟨σ id, 0, none⟩ (.pointer (some ⟨σ id, 0, none⟩)) = { w with heap := w.heap.setIfInBounds (σ id) (celO bldT [.pointer (some ⟨σ id, 0, none⟩), c1]) } := by
      have := setCell_block (o := 0) (v := .pointer (some ⟨σ id, 0, none⟩)) (show w.heap[σ id]? = some (celO bldT [.pointer none, c1]) from hc)
      exact this
    rw [hset]
    obtain ⟨h5, _⟩ := store_state (l' := [.loc id 0, d1]) (c' := #[.pointer (some ⟨σ id, 0, none⟩), c1]) (w' := { w with heap := w.heap.setIfInBounds (σ id) (celO bldT [.pointer (some ⟨σ id, 0, none⟩), c1]) }) hs hid (by simp [hb, celO]) (Nat.le_refl _) rfl rfl rfl (by simp) (fun k hk => by simp [Array.getElem?_setIfInBounds, Ne.symm hk]) hreps
    exact ⟨_, _, σ, τ, _, h, h1, h5, .tup rfl fun j d u hd hu => by simp at hd, fun h => by cases h⟩
  · have e0 := (loc_val r0).2
    subst e0
    refine (Any.Builder_copyCheck_used { lays156 with } Builder_Extra_156.toX72 (σ id) w (by simp [World.cell?, hc])).mono fun e w' ⟨h1, h2⟩ => ?_
    subst h2
    obtain ⟨h5, _⟩ := store_state (l' := [.loc id 0, d1]) (c' := #[.pointer (some ⟨σ id, 0, none⟩), c1]) (w' := w') hs hid hc (Nat.le_refl _) rfl rfl rfl rfl (fun k hk => rfl) hreps
    exact ⟨_, _, σ, τ, _, h, h1, h5, .tup rfl fun j d u hd hu => by simp at hd, fun h => by cases h⟩

theorem bytesI_str (l x : List Nat) : bytesI (strB (l ++ x)) = bytesI (strB l) ++ bytesI (strB x) := by
  unfold bytesI
  rw [strB_data, strB_data, strB_data, List.map_append, List.map_append]
theorem byteZero : (Tryz.prog.info? 5).map (fun i => i.zero) = some (some (.int .u8 0)) := by kernel_rfl
end Go.Proofs.YtbjhkhhbdlnfbaaGreatDoor.V
