/-
  Strings by their bytes, as numbers. No condition.
-/
import Derived.Test.YtbhmnloklpdmiaaDoorVw
import Derived.Test.YtbhmnloklpdmiaaDoorVst
import Derived.Lib.Strings
namespace Go.Proofs.YtbhmnloklpdmiaaDoor.V

/-- Bytes, as numbers. -/
def Byt (l : List Nat) : Prop := ∀ x, x ∈ l → x < 256
def strB (l : List Nat) : ByteArray := ⟨(l.map UInt8.ofNat).toArray⟩
abbrev strD (l : List Nat) : D := .v (.string (strB l))

theorem Byt.nil : Byt [] := fun x h => by cases h
theorem Byt.cons {x : Nat} {l : List Nat} (hx : x < 256) (h : Byt l) : Byt (x :: l) := fun y hy => by
  rcases List.mem_cons.1 hy with rfl | hy
  · exact hx
  · exact h y hy
theorem Byt.append {a b : List Nat} (ha : Byt a) (hb : Byt b) : Byt (a ++ b) := fun y hy => by
  rcases List.mem_append.1 hy with h | h
  · exact ha y h
  · exact hb y h
theorem Byt.sub {a b : List Nat} (ha : Byt a) (h : ∀ x, x ∈ b → x ∈ a) : Byt b := fun y hy => ha y (h y hy)
theorem Byt.tail {x : Nat} {l : List Nat} (h : Byt (x :: l)) : Byt l := h.sub fun _ hy => List.mem_cons_of_mem _ hy
theorem Byt.head {x : Nat} {l : List Nat} (h : Byt (x :: l)) : x < 256 := h x List.mem_cons_self
theorem Byt.take {l : List Nat} (h : Byt l) (n : Nat) : Byt (l.take n) := h.sub fun _ hy => List.mem_of_mem_take hy
theorem Byt.drop {l : List Nat} (h : Byt l) (n : Nat) : Byt (l.drop n) := h.sub fun _ hy => List.mem_of_mem_drop hy
theorem Byt.get {l : List Nat} (h : Byt l) {n x : Nat} (hx : l[n]? = some x) : x < 256 := h x (List.mem_of_getElem? hx)

theorem strB_data (l : List Nat) : (strB l).data.toList = l.map UInt8.ofNat := rfl
theorem strB_size (l : List Nat) : (strB l).size = l.length := by
  show (l.map UInt8.ofNat).toArray.size = _
  simp
theorem strB_ext {a b : ByteArray} (h : a.data.toList = b.data.toList) : a = b := ByteArray.ext (Array.toList_inj.1 h)
theorem strB_append (a b : List Nat) : strB a ++ strB b = strB (a ++ b) := strB_ext (by
  rw [strB_data, List.map_append]
  show (ByteArray.append _ _).data.toList = _
  simp [strB])
theorem ofNat_inj {a b : Nat} (ha : a < 256) (hb : b < 256) (h : UInt8.ofNat a = UInt8.ofNat b) : a = b := by
  have := congrArg UInt8.toNat h
  rw [UInt8.toNat_ofNat', UInt8.toNat_ofNat'] at this
  omega
theorem map_inj : ∀ {a b : List Nat}, Byt a → Byt b → a.map UInt8.ofNat = b.map UInt8.ofNat → a = b
  | [], [], _, _, _ => rfl
  | [], _ :: _, _, _, h => by simp at h
  | _ :: _, [], _, _, h => by simp at h
  | x :: a, y :: b, ha, hb, h => by
    simp only [List.map_cons, List.cons.injEq] at h
    rw [ofNat_inj ha.head hb.head h.1, map_inj ha.tail hb.tail h.2]
theorem strB_inj {a b : List Nat} (ha : Byt a) (hb : Byt b) (h : strB a = strB b) : a = b := map_inj ha hb (congrArg (fun x => x.data.toList) h)
theorem strB_beq {a b : List Nat} (ha : Byt a) (hb : Byt b) : ((strB a).toList == (strB b).toList) = decide (a = b) := by
  rw [Lib.toList_data, Lib.toList_data]
  by_cases h : a = b
  · subst h; simp
  · rw [decide_eq_false h]
    refine beq_eq_false_iff_ne.2 fun e => h (strB_inj ha hb (strB_ext e))
theorem strB_all (b : ByteArray) : ∃ l, Byt l ∧ b = strB l := by
  refine ⟨b.data.toList.map UInt8.toNat, fun x hx => ?_, strB_ext ?_⟩
  · obtain ⟨y, _, rfl⟩ := List.mem_map.1 hx
    exact y.toNat_lt
  · rw [strB_data, List.map_map]
    have : (UInt8.ofNat ∘ UInt8.toNat) = id := by funext x; simp
    rw [this, List.map_id]
theorem strB_get {l : List Nat} (h : Byt l) {n : Nat} {b : UInt8} (hb : (strB l)[n]? = some b) : l[n]? = some b.toNat := by
  have h1 : (l.map UInt8.ofNat)[n]? = some b := by
    rw [← hb]
    by_cases hn : n < l.length
    · rw [List.getElem?_eq_getElem (by simpa using hn)]
      rw [getElem?_pos (strB l) n (by rw [strB_size]; exact hn)]
      congr 1
    · rw [List.getElem?_eq_none (by simpa using hn)]
      rw [getElem?_neg (strB l) n (by rw [strB_size]; exact hn)]
  rw [List.getElem?_map] at h1
  cases hq : l[n]? with
  | none => rw [hq] at h1; cases h1
  | some x =>
    rw [hq] at h1
    simp only [Option.map_some, Option.some.injEq] at h1
    subst h1
    rw [UInt8.toNat_ofNat', Nat.mod_eq_of_lt (h.get hq)]
theorem strB_extract (l : List Nat) (i j : Nat) : (strB l).extract i j = strB ((l.take j).drop i) := strB_ext (by
  rw [strB_data, List.map_drop, List.map_take]
  rw [List.drop_take]
  simp [strB])
theorem bytesOf_str (L : List Int) : bytesOf L = strB (L.map Int.toNat) := by
  unfold bytesOf strB
  rw [List.map_map]; rfl

/-- What stands at a place of a string, decoded: a byte below 128 is itself, and one of 128 or more is no such. -/
theorem decode_low {l : List Nat} (h : Byt l) {p x : Nat} (hx : l[p]? = some x) (h7 : x < 128) : Utf8.decode (strB l) p = (x, 1) := by
  have hp : p < (strB l).size := by rw [strB_size]; exact (List.getElem?_eq_some_iff.1 hx).1
  have hb : (strB l)[p]? = some ((strB l)[p]'hp) := getElem?_pos _ _ _
  have := strB_get h hb
  rw [hx] at this
  injection this with this
  have h2 := decode_ascii (strB l) p hp (by omega)
  rw [h2, ← this]
theorem decode_high {l : List Nat} (h : Byt l) {p x c n : Nat} (hx : l[p]? = some x) (h7 : ¬ x < 128) (hd : Utf8.decode (strB l) p = (c, n)) : 127 < c := by
  have hp : p < (strB l).size := by rw [strB_size]; exact (List.getElem?_eq_some_iff.1 hx).1
  have hb : (strB l)[p]? = some ((strB l)[p]'hp) := getElem?_pos _ _ _
  have h1 := strB_get h hb
  rw [hx] at h1
  injection h1 with h1
  have e : ((strB l).get! (p + 0)).toNat = x := by
    rw [h1]
    show ((strB l).get! p).toNat = _
    congr 1
    simp [ByteArray.get!, getElem!_pos, hp]
    rfl
  unfold Utf8.decode at hd
  simp only [e, h7, if_false] at hd
  repeat' split at hd
  all_goals first
    | (injection hd with hd1 hd2; subst hd1; decide +revert)
    | (injection hd with hd1 hd2; subst hd1; omega)
    | (injection hd with hd1 hd2; subst hd1; rename_i h9; simp only [Bool.and_eq_true, decide_eq_true_eq] at h9; omega)
    | (injection hd with hd1 hd2; subst hd1; rename_i h9; simp only [Bool.and_eq_true, decide_eq_true_eq] at h9; omega)
end Go.Proofs.YtbhmnloklpdmiaaDoor.V
