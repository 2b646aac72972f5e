/-
  Strings: a range over one, bytes turned to one. Conditions: the table of types says what the program's says.
-/
import Derived.Test.YtbhmnloklpdmiaaDoorVx
import Derived.Laws.BytesString
namespace Go.Proofs.YtbhmnloklpdmiaaDoor.V
open Go.RowKit

section
variable {P : Program} {tt : TT} {E : Env} {s : St} {σ : Nat → Nat} {τ : Nat → Value} {a : Act} {w : World}

abbrev strI (b : ByteArray) (pos : Nat) : LO := .obj (.ob (.stringIter b pos))

theorem op_rangeStr (htt : ttOk P tt) {g : Bool} {o : Oper} {t : TypeId} {x : Operand} {b : ByteArray} {a1 a2 a3} (ho : o.op = .range t x) (ht : tfind tt t = some ⟨.str, a1, a2, a3⟩) (hx : evD s x = .v (.string b)) {K : D → St → Prop}
    (h : K (.loc s.nx 0) ⟨s.F, (s.nx, strI b 0) :: s.H, s.nx + 1, s.G⟩) : OpVC P g o s K := by
  intro E σ τ a w hs next Q hn
  obtain ⟨_, _, _, k1, _, _, k4, _⟩ := view_spec (tfind_view htt ht)
  have := ud_str k4; subst this
  have hxr := evD_rep hs x
  rw [hx] at hxr
  have hxv := rep_v hxr
  unfold Oper.wp
  have hrun : (execOp a.eval o).run P w = .ok (.value (.pointer (some ⟨w.heap.size, 0, none⟩))) (w.alloc (.stringIter b 0)) := by
    have := run_range_string (P := P) w t b k1
    simp only [execOp, ho, hxv, Sem.run_bind, this, Result.andThen]
    rfl
  rw [hrun]
  refine hn _ _ _ _ _ _ h (allocObj_state hs _) (.loc ⟨Nat.lt_succ_self _, ?_⟩) (fun _ => (Below.refl _ _).alloc (Nat.le_refl _) _)
  simp [setN]

theorem loc_val {C : Ctx} {id off : Nat} {v : Value} (h : Rep C (.loc id off) v) : C.loc id off v := by
  cases h with
  | loc hl => exact hl

theorem tup_rep {C : Ctx} {l : List D} {c : Array Value} (h : reps C l c.toList) : Rep C (.tup l) (.tuple c) := by
  refine .tup (by simpa using h.1) fun j d u hd hu => h.2 j d u hd (by simpa using hu)

theorem op_nextStr {o : Oper} {x : Operand} {id pos : Nat} {b : ByteArray} (ho : o.op = .next x true) (hx : evD s x = .loc id 0) (hid : lget s.H id = some (strI b pos)) {K : D → St → Prop}
    (h1 : ∀ c n, pos < b.size → Utf8.decode b pos = (c, n) → K (.tup [.v (.bool true), .v (.int .i64 pos), .v (.int .i32 c)]) ⟨s.F, (id, strI b (pos + n)) :: s.H, s.nx, s.G⟩)
    (h0 : ¬ pos < b.size → K (.tup [.v (.bool false)]) s) : OpVC P false o s K := by
  intro E σ τ a w hs next Q hn
  have hxr := evD_rep hs x
  rw [hx] at hxr
  obtain ⟨hlt, hv⟩ := loc_val hxr
  obtain ⟨_, hob⟩ := hs.heap.obj id _ hid
  have hob : w.heap[σ id]? = some (.stringIter b pos) := hob
  unfold Oper.wp
  by_cases hp : pos < b.size
  · obtain ⟨c, n, hd⟩ : ∃ c n, Utf8.decode b pos = (c, n) := ⟨_, _, rfl⟩
    have hrun : (execOp a.eval o).run P w = .ok (.value (.tuple #[.bool true, .int .i64 pos, .int .i32 c])) { w with heap := w.heap.setIfInBounds (σ id) (.stringIter b (pos + n)) } := by
      simp only [execOp, ho, hv, Instr.next, getObj, setObj, Sem.run_bind, Sem.run, hob, Result.andThen, hp, if_true, hd]
      simp [goInt, Sem.run, hob]
    rw [hrun]
    refine hn _ _ _ _ _ _ (h1 c n hp hd) (setObj_state hs hid _) (tup_rep ⟨rfl, fun j d u hd hu => ?_⟩) (fun h => by cases h)
    match j, hd, hu with
    | 0, hd, hu => injection hd with hd; injection hu with hu; subst hd hu; exact .v
    | 1, hd, hu => injection hd with hd; injection hu with hu; subst hd hu; exact .v
    | 2, hd, hu => injection hd with hd; injection hu with hu; subst hd hu; exact .v
    | _ + 3, hd, _ => simp at hd
  · have hrun : (execOp a.eval o).run P w = .ok (.value (.tuple #[.bool false])) w := by
      simp only [execOp, ho, hv, Instr.next, getObj, Sem.run_bind, Sem.run, hob, Result.andThen, hp, if_false]
      simp [Sem.run]
    rw [hrun]
    refine hn _ _ _ _ _ _ (h0 hp) hs (tup_rep ⟨rfl, fun j d u hd hu => ?_⟩) (fun h => by cases h)
    match j, hd, hu with
    | 0, hd, hu => injection hd with hd; injection hu with hu; subst hd hu; exact .v
    | _ + 1, hd, _ => simp at hd

/-- Bytes as a string. -/
def bytesOf (L : List Int) : ByteArray := ⟨(L.map fun n => UInt8.ofNat n.toNat).toArray⟩
theorem foldl_push (f : Int → UInt8) : ∀ (L : List Int) (s : ByteArray), (L.foldl (fun r n => r.push (f n)) s).data.toList = s.data.toList ++ L.map f
  | [], s => by simp
  | n :: L, s => by
    rw [List.foldl_cons, foldl_push f L]
    simp [ByteArray.push]
theorem foldl_bytes (L : List Int) : L.foldl (fun r n => r.push (UInt8.ofNat n.toNat)) ByteArray.empty = bytesOf L := by
  apply ByteArray.ext
  apply Array.toList_inj.1
  rw [foldl_push]
  simp [bytesOf, ByteArray.empty, ByteArray.emptyWithCapacity]
  rfl

theorem op_bytesStr (htt : ttOk P tt) {g : Bool} {o : Oper} {t u e : TypeId} {x : Operand} {L : List Int} {a1 a2 a3 b1 b2 b3 c1 c2 c3} (ho : o.op = .convert t u x) (ht : tfind tt t = some ⟨.slice e, a1, a2, a3⟩) (he : tfind tt e = some ⟨.int .u8, b1, b2, b3⟩) (hu : tfind tt u = some ⟨.str, c1, c2, c3⟩)
    (hx : srcRows s 1 (evD s x) = some (L.map fun n => [.v (.int .u8 n)])) (hl : litStill (evD s x) = true) {K : D → St → Prop} (h : K (.v (.string (bytesOf L))) s) : OpVC P g o s K := by
  intro E σ τ a w hs next Q hn
  obtain ⟨_, _, _, k1, _, _, k4, _⟩ := view_spec (tfind_view htt ht)
  have := ud_slice k4; subst this
  obtain ⟨_, _, _, q1, _, _, q4, _⟩ := view_spec (tfind_view htt he)
  have := ud_int q4; subst this
  obtain ⟨_, _, _, r1, _, _, r4, _⟩ := view_spec (tfind_view htt hu)
  have := ud_str r4; subst this
  obtain ⟨p, c, news, hv, hlen, hone, hrep, hmem⟩ := src_spec hs (Nat.zero_lt_one) hx hl (evD_rep hs x)
  rw [List.length_map] at hv hlen
  have hnews : news = L.map (Value.int .u8) := by
    apply List.ext_getElem?
    intro i
    cases hq : L[i]? with
    | none =>
      have h1 := List.getElem?_eq_none_iff.1 hq
      rw [List.getElem?_eq_none (by omega), List.getElem?_map, hq]; rfl
    | some n =>
      have h1 := (List.getElem?_eq_some_iff.1 hq).1
      obtain ⟨v, hv⟩ : ∃ v, news[i]? = some v := ⟨_, List.getElem?_eq_getElem (by omega)⟩
      have := hrep i [.v (.int .u8 n)] 0 (.v (.int .u8 n)) v (by rw [List.getElem?_map, hq]; rfl) rfl (by rw [Nat.mul_one, Nat.add_zero]; exact hv)
      rw [hv, List.getElem?_map, hq, rep_v this]; rfl
  unfold Oper.wp
  have hrun : (execOp a.eval o).run P w = .ok (.value (.string (bytesOf L))) w := by
    have hc := run_convert_bytes_string (P := P) w t u e p L.length c k1 q1 r1
    have hb : (Conv.bytesToString (.slice p L.length c)).run P w = .ok (.string (bytesOf L)) w := by
      cases L with
      | nil =>
        cases p with
        | none => simp [Conv.bytesToString, Sem.run_pure, bytesOf]; rfl
        | some p =>
          have := run_bytesToString (P := P) w p 0 c [] (by
            have := run_loadCells_list (P := P) w p [] (fun j v h => by cases h)
            simpa using this)
          rw [foldl_bytes] at this
          exact this
      | cons n r =>
        rcases hmem with hmem | ⟨b, o, hp, hcells⟩
        · cases hmem
        · rw [hp, ← foldl_bytes]
          refine run_bytesToString (P := P) w _ _ c (n :: r) ?_
          have := run_loadCells_list (P := P) w ⟨b, o, none⟩ news (fun j v hj => by
            have h5 := hcells j v hj
            unfold Addr.add
            split
            · rename_i h6; subst h6; exact h5
            · exact h5)
          rw [hnews, List.length_map] at this
          exact this
    simp only [execOp, ho, hv, Sem.run_bind, hc, hb, Result.andThen]
    rfl
  rw [hrun]
  exact hn _ _ _ _ _ _ h hs .v (fun _ => Below.refl _ _)
end
end Go.Proofs.YtbhmnloklpdmiaaDoor.V
