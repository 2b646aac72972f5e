/-
  The text of a filter that is a tree, its words, how deep it is: plain laws. No condition.
  What a filter is as a text: the program's, by value. Conditions: numbers of their types.
  The words of a text: the program's, by value. Conditions: bytes below 128.
  strings.Cut, numbers, nets: the program's, by value. Conditions: texts not too long, as they are printed.
-/
import Derived.Test.YtfghccppoilfhaaK7
import Derived.Test.YtfghccppoilfhaaJaK
import Derived.Test.YtfghccppoilfhaaFigK
import Derived.Test.YtfghccppoilfhaaK3
import Derived.Test.YtfghccppoilfhaaK4
import Derived.Test.YtfghccppoilfhaaK1
namespace Go.Proofs.Ytfghccppoilfhaa.V
open Go.RowKit

def opT : Int → List Nat
  | .ofNat 1 => [116, 99, 112]
  | .ofNat 2 => [117, 100, 112]
  | .ofNat 3 => [105, 99, 109, 112]
  | .ofNat 4 => [97, 110, 121]
  | .ofNat 5 => [115, 114, 99]
  | .ofNat 6 => [100, 115, 116]
  | .ofNat 7 => [115, 112, 111, 114, 116]
  | .ofNat 8 => [100, 112, 111, 114, 116]
  | .ofNat 9 => [115, 121, 110]
  | .ofNat 10 => [108, 101, 110]
  | _ => []
def numB (op : Int) : Bool := match decide (op = 7) with
  | true => true
  | false => match decide (op = 8) with
    | true => true
    | false => decide (op = 10)
def netT (x : FSt) : List Nat := txt x.addr ++ 47 :: dgs x.num.toNat
def oneT (x : FSt) : List Nat := match netB x.op with
  | true => opT x.op ++ 32 :: netT x
  | false => match numB x.op with
    | true => opT x.op ++ 32 :: dgs x.num.toNat
    | false => opT x.op
def oneW (x : FSt) : List (List Nat) := match netB x.op with
  | true => [opT x.op, netT x]
  | false => match numB x.op with
    | true => [opT x.op, dgs x.num.toNat]
    | false => [opT x.op]
abbrev notW : List Nat := [110, 111, 116]
abbrev andW : List Nat := [97, 110, 100]
abbrev orW : List Nat := [111, 114]
namespace FT
def text : FT → List Nat
  | leaf x => oneT x
  | no t => [110, 111, 116, 32] ++ t.text
  | an l r => [40] ++ l.text ++ [32, 97, 110, 100, 32] ++ r.text ++ [41]
  | or l r => [40] ++ l.text ++ [32, 111, 114, 32] ++ r.text ++ [41]
def words : FT → List (List Nat)
  | leaf x => oneW x
  | no t => notW :: t.words
  | an l r => [40] :: (l.words ++ (andW :: (r.words ++ [[41]])))
  | or l r => [40] :: (l.words ++ (orW :: (r.words ++ [[41]])))
def deep : FT → Nat
  | leaf _ => 0
  | no t => t.deep + 1
  | an l r => max l.deep r.deep + 1
  | or l r => max l.deep r.deep + 1
end FT
/-! ### What a step that asks something is -/
theorem opT_small : ∀ op : Int, 1 ≤ op → op ≤ 10 → (opT op).length ≤ 5 ∧ (∀ c, c ∈ opT op → 97 ≤ c ∧ c < 128) ∧ opT op ≠ [] := by
  intro op h1 h2
  rcases (by omega : op = 1 ∨ op = 2 ∨ op = 3 ∨ op = 4 ∨ op = 5 ∨ op = 6 ∨ op = 7 ∨ op = 8 ∨ op = 9 ∨ op = 10) with rfl | rfl | rfl | rfl | rfl | rfl | rfl | rfl | rfl | rfl
  all_goals exact ⟨by decide, by decide, by decide⟩
theorem netT_is (x : FSt) : ∀ c, c ∈ netT x → 46 ≤ c ∧ c ≤ 57 := by
  intro c hc
  unfold netT at hc
  simp only [List.mem_append, List.mem_cons] at hc
  rcases hc with hc | rfl | hc
  · have := txt_is _ c hc; omega
  · exact ⟨by decide, by decide⟩
  · have := dgs_is _ c hc; omega
theorem netT_ne (x : FSt) : netT x ≠ [] := by unfold netT; simp
theorem dgs_short {n : Nat} (h : n ≤ 65535) : (dgs n).length ≤ 5 := dgs_len 4 n (by omega)
theorem bare_num {x : FSt} (h : bareB x = true) : 0 ≤ x.num ∧ x.num ≤ 65535 ∧ (netB x.op = true → x.num ≤ 32) := by
  unfold bareB at h
  cases h1 : decide (0 ≤ boundI x.op) with
  | false => rw [h1] at h; cases h
  | true =>
    rw [h1] at h
    dsimp only at h
    cases h2 : decide (0 ≤ x.num) with
    | false => rw [h2] at h; cases h
    | true =>
      rw [h2] at h
      dsimp only at h
      cases h3 : decide (x.num ≤ boundI x.op) with
      | false => rw [h3] at h; cases h
      | true =>
        have h2 := of_decide_eq_true h2
        have h3 := of_decide_eq_true h3
        have hb : boundI x.op ≤ 65535 ∧ (netB x.op = true → boundI x.op ≤ 32) := by
          unfold boundI netB
          repeat' split
          all_goals simp only [decide_eq_true_eq, decide_eq_false_iff_not] at *
          all_goals (refine ⟨by omega, fun h => ?_⟩; omega)
        exact ⟨h2, by omega, fun hn => by have := hb.2 hn; omega⟩
theorem bare_zero {x : FSt} (h : bareB x = true) : (netB x.op = false → x.addr = 0) ∧ (netB x.op = false → numB x.op = false → x.num = 0) := by
  have hn := bare_num h
  unfold bareB at h
  cases h1 : decide (0 ≤ boundI x.op) with
  | false => rw [h1] at h; cases h
  | true =>
    rw [h1] at h
    dsimp only at h
    cases h2 : decide (0 ≤ x.num) with
    | false => rw [h2] at h; cases h
    | true =>
      rw [h2] at h
      dsimp only at h
      cases h3 : decide (x.num ≤ boundI x.op) with
      | false => rw [h3] at h; cases h
      | true =>
        rw [h3] at h
        dsimp only at h
        have h3 := of_decide_eq_true h3
        refine ⟨fun hq => ?_, fun hq hw => ?_⟩
        · rw [hq] at h
          have := of_decide_eq_true h
          omega
        · have hb : boundI x.op ≤ 0 := by
            unfold netB at hq
            unfold numB at hw
            unfold boundI
            repeat' split at hq
            all_goals repeat' split at hw
            all_goals simp only [decide_eq_true_eq, decide_eq_false_iff_not, reduceCtorEq] at *
            repeat' split
            all_goals simp only [decide_eq_true_eq, decide_eq_false_iff_not] at *
            all_goals omega
          omega
theorem oneT_len {x : FSt} (h : (FT.leaf x).ok) : (oneT x).length ≤ 30 := by
  obtain ⟨hb, h1, h2⟩ := h
  have ho := (opT_small x.op h1 h2).1
  have hn := bare_num hb
  have hd := dgs_short (n := x.num.toNat) (by omega)
  have ht := txt_len x.addr
  unfold oneT netT
  split
  · simp only [List.length_append, List.length_cons]; omega
  · split
    · simp only [List.length_append, List.length_cons]; omega
    · omega
theorem lit_low {l : List Nat} (h : (l.all fun c => decide (c < 128)) = true) : ∀ c, c ∈ l → c < 128 := fun c hc => of_decide_eq_true (List.all_eq_true.1 h c hc)
namespace FT
theorem text_low : ∀ t : FT, t.ok → ∀ c, c ∈ t.text → c < 128
  | leaf x, h, c, hc => by
    obtain ⟨hb, h1, h2⟩ := h
    have ho := (opT_small x.op h1 h2).2.1
    have hc : c ∈ oneT x := hc
    unfold oneT at hc
    split at hc
    · simp only [List.mem_append, List.mem_cons] at hc
      rcases hc with hc | rfl | hc
      · exact (ho c hc).2
      · decide
      · have := netT_is x c hc; omega
    · split at hc
      · simp only [List.mem_append, List.mem_cons] at hc
        rcases hc with hc | rfl | hc
        · exact (ho c hc).2
        · decide
        · have := dgs_is _ c hc; omega
      · exact (ho c hc).2
  | no t, h, c, hc => by
    have hc : c ∈ [110, 111, 116, 32] ++ t.text := hc
    rcases List.mem_append.1 hc with hc | hc
    · exact lit_low (by decide) c hc
    · exact text_low t h c hc
  | an l r, h, c, hc => by
    have hc : c ∈ [40] ++ l.text ++ [32, 97, 110, 100, 32] ++ r.text ++ [41] := hc
    simp only [List.mem_append] at hc
    rcases hc with (((hc | hc) | hc) | hc) | hc
    · exact lit_low (by decide) c hc
    · exact text_low l h.1 c hc
    · exact lit_low (by decide) c hc
    · exact text_low r h.2 c hc
    · exact lit_low (by decide) c hc
  | or l r, h, c, hc => by
    have hc : c ∈ [40] ++ l.text ++ [32, 111, 114, 32] ++ r.text ++ [41] := hc
    simp only [List.mem_append] at hc
    rcases hc with (((hc | hc) | hc) | hc) | hc
    · exact lit_low (by decide) c hc
    · exact text_low l h.1 c hc
    · exact lit_low (by decide) c hc
    · exact text_low r h.2 c hc
    · exact lit_low (by decide) c hc
end FT
/-! ### Words of a text -/
abbrev WS := List (List Nat) × List Nat
def wend (p : WS) : List (List Nat) := match p.2 with
  | [] => p.1
  | c :: w => p.1 ++ [c :: w]
def wst (p : WS) (c : Nat) : WS := match decide (c = 32) with
  | true => (wend p, [])
  | false => match decide (c = 40) with
    | true => (wend p ++ [[c]], [])
    | false => match decide (c = 41) with
      | true => (wend p ++ [[c]], [])
      | false => (p.1, p.2 ++ [c])
theorem wend_ne {o : List (List Nat)} {w : List Nat} (h : w ≠ []) : wend (o, w) = o ++ [w] := by
  cases w with
  | nil => exact absurd rfl h
  | cons c w => rfl
theorem wst_plain {p : WS} {c : Nat} (h : c ≠ 32 ∧ c ≠ 40 ∧ c ≠ 41) : wst p c = (p.1, p.2 ++ [c]) := by
  unfold wst
  rw [decide_eq_false h.1, decide_eq_false h.2.1, decide_eq_false h.2.2]
theorem wfold_plain : ∀ (l : List Nat) (o : List (List Nat)) (w : List Nat), (∀ c, c ∈ l → c ≠ 32 ∧ c ≠ 40 ∧ c ≠ 41) → l.foldl wst (o, w) = (o, w ++ l)
  | [], o, w, _ => by rw [List.append_nil]; rfl
  | c :: l, o, w, h => by
    rw [List.foldl_cons, wst_plain (h c List.mem_cons_self), wfold_plain l _ _ fun x hx => h x (List.mem_cons_of_mem _ hx), List.append_assoc]
    rfl
theorem wfold_word {l : List Nat} {o : List (List Nat)} (h : ∀ c, c ∈ l → c ≠ 32 ∧ c ≠ 40 ∧ c ≠ 41) (hn : l ≠ []) : wend (l.foldl wst (o, [])) = o ++ [l] := by
  rw [wfold_plain l o [] h, List.nil_append, wend_ne hn]
theorem wst_sp (p : WS) : wst p 32 = (wend p, []) := rfl
theorem wst_cl (p : WS) : wst p 41 = (wend p ++ [[41]], []) := rfl
theorem wst_len (p : WS) (c : Nat) : (wst p c).1.length + (wst p c).2.length ≤ p.1.length + p.2.length + 1 := by
  have hw : (wend p).length + 1 ≤ p.1.length + p.2.length + 1 := by
    obtain ⟨o, w⟩ := p
    cases w with
    | nil => exact Nat.le_refl _
    | cons c w => show (o ++ [c :: w]).length + 1 ≤ _; rw [List.length_append]; simp only [List.length_cons, List.length_nil]; omega
  unfold wst
  repeat' split
  all_goals simp only [List.length_append, List.length_cons, List.length_nil]
  all_goals omega
theorem wfold_len : ∀ (l : List Nat) (p : WS), (l.foldl wst p).1.length + (l.foldl wst p).2.length ≤ p.1.length + p.2.length + l.length
  | [], p => Nat.le_refl _
  | c :: l, p => by
    rw [List.foldl_cons, List.length_cons]
    have := wfold_len l (wst p c)
    have := wst_len p c
    omega
theorem opT_plain {op : Int} (h1 : 1 ≤ op) (h2 : op ≤ 10) : ∀ c, c ∈ opT op → c ≠ 32 ∧ c ≠ 40 ∧ c ≠ 41 := fun c hc => by
  have := (opT_small op h1 h2).2.1 c hc; omega
theorem netT_plain (x : FSt) : ∀ c, c ∈ netT x → c ≠ 32 ∧ c ≠ 40 ∧ c ≠ 41 := fun c hc => by have := netT_is x c hc; omega
theorem dgs_plain (n : Nat) : ∀ c, c ∈ dgs n → c ≠ 32 ∧ c ≠ 40 ∧ c ≠ 41 := fun c hc => by have := dgs_is n c hc; omega
theorem words_text : ∀ t : FT, t.ok → ∀ o, wend (t.text.foldl wst (o, [])) = o ++ t.words
  | .leaf x, h, o => by
    obtain ⟨hb, h1, h2⟩ := h
    have ho := opT_small x.op h1 h2
    show wend ((oneT x).foldl wst (o, [])) = o ++ oneW x
    unfold oneT oneW
    split
    · rw [List.foldl_append, List.foldl_cons, wst_sp, wfold_word (opT_plain h1 h2) ho.2.2, wfold_word (netT_plain x) (netT_ne x), List.append_assoc]; rfl
    · split
      · rw [List.foldl_append, List.foldl_cons, wst_sp, wfold_word (opT_plain h1 h2) ho.2.2, wfold_word (dgs_plain _) (dgs_ne _), List.append_assoc]; rfl
      · exact wfold_word (opT_plain h1 h2) ho.2.2
  | .no t, h, o => by
    show wend (([110, 111, 116, 32] ++ t.text).foldl wst (o, [])) = o ++ (notW :: t.words)
    rw [List.foldl_append]
    show wend (t.text.foldl wst (o ++ [notW], [])) = _
    rw [words_text t h, List.append_assoc]; rfl
  | .an l r, h, o => by
    show wend (([40] ++ l.text ++ [32, 97, 110, 100, 32] ++ r.text ++ [41]).foldl wst (o, [])) = o ++ ([40] :: (l.words ++ (andW :: (r.words ++ [[41]]))))
    rw [List.foldl_append, List.foldl_append, List.foldl_append, List.foldl_append]
    show wend (wst (r.text.foldl wst (wend (l.text.foldl wst (o ++ [[40]], [])) ++ [andW], [])) 41) = _
    rw [words_text l h.1, wst_cl, words_text r h.2]
    show o ++ [[40]] ++ l.words ++ [andW] ++ r.words ++ [[41]] = _
    simp only [List.append_assoc, List.cons_append, List.nil_append]
  | .or l r, h, o => by
    show wend (([40] ++ l.text ++ [32, 111, 114, 32] ++ r.text ++ [41]).foldl wst (o, [])) = o ++ ([40] :: (l.words ++ (orW :: (r.words ++ [[41]]))))
    rw [List.foldl_append, List.foldl_append, List.foldl_append, List.foldl_append]
    show wend (wst (r.text.foldl wst (wend (l.text.foldl wst (o ++ [[40]], [])) ++ [orW], [])) 41) = _
    rw [words_text l h.1, wst_cl, words_text r h.2]
    show o ++ [[40]] ++ l.words ++ [orW] ++ r.words ++ [[41]] = _
    simp only [List.append_assoc, List.cons_append, List.nil_append]

/-! ### What stands in the row while a filter is printed -/
def stepT (row : List (List Nat)) (x : FSt) : List (List Nat) := match decide (x.op = 11) with
  | true => row.take (row.length - 2) ++ [[40] ++ row.getD (row.length - 2) [] ++ [32, 97, 110, 100, 32] ++ row.getD (row.length - 1) [] ++ [41]]
  | false => match decide (x.op = 12) with
    | true => row.take (row.length - 2) ++ [[40] ++ row.getD (row.length - 2) [] ++ [32, 111, 114, 32] ++ row.getD (row.length - 1) [] ++ [41]]
    | false => match decide (x.op = 13) with
      | true => row.set (row.length - 1) ([110, 111, 116, 32] ++ row.getD (row.length - 1) [])
      | false => row ++ [oneT x]
def evT : List (List Nat) → List FSt → List (List Nat)
  | row, [] => row
  | row, x :: r => evT (stepT row x) r
theorem getT_of {l : List (List Nat)} {i : Nat} {x : List Nat} (h : l[i]? = some x) : l.getD i [] = x := by rw [List.getD_eq_getElem?_getD, h]; rfl
theorem evT_tree : ∀ (t : FT), t.ok → ∀ row rest, evT row (t.flat ++ rest) = evT (row ++ [t.text]) rest
  | .leaf x, h, row, rest => by
    obtain ⟨_, h1, h2⟩ := h
    show evT (stepT row x) rest = _
    unfold stepT
    rw [decide_eq_false (show ¬ x.op = 11 by omega), decide_eq_false (show ¬ x.op = 12 by omega), decide_eq_false (show ¬ x.op = 13 by omega)]
    rfl
  | .no t, h, row, rest => by
    rw [FT.flat, List.append_assoc, evT_tree t h]
    show evT (stepT _ (opSt 13)) rest = _
    congr 1
    show (row ++ [t.text]).set _ _ = row ++ [[110, 111, 116, 32] ++ t.text]
    rw [List.length_append, List.length_singleton, Nat.add_sub_cancel, List.set_append_right _ _ (Nat.le_refl _), Nat.sub_self, List.getD_eq_getElem?_getD, List.getElem?_append_right (Nat.le_refl _), Nat.sub_self]
    rfl
  | .an l r, h, row, rest => by
    rw [FT.flat, List.append_assoc, evT_tree l h.1, List.append_assoc, evT_tree r h.2]
    show evT (stepT _ (opSt 11)) rest = _
    congr 1
    rw [List.append_assoc, List.singleton_append]
    unfold stepT
    show (row ++ [l.text, r.text]).take ((row ++ [l.text, r.text]).length - 2) ++ [_] = row ++ [FT.text (.an l r)]
    rw [List.length_append]
    show (row ++ [l.text, r.text]).take (row.length + 2 - 2) ++ [[40] ++ List.getD _ (row.length + 2 - 2) [] ++ [32, 97, 110, 100, 32] ++ List.getD _ (row.length + 2 - 1) [] ++ [41]] = _
    rw [show row.length + 2 - 2 = row.length by omega, show row.length + 2 - 1 = row.length + 1 by omega, List.take_left, List.getD_eq_getElem?_getD, List.getD_eq_getElem?_getD, List.getElem?_append_right (Nat.le_refl _), List.getElem?_append_right (by omega), Nat.sub_self, show row.length + 1 - row.length = 1 by omega]
    rfl
  | .or l r, h, row, rest => by
    rw [FT.flat, List.append_assoc, evT_tree l h.1, List.append_assoc, evT_tree r h.2]
    show evT (stepT _ (opSt 12)) rest = _
    congr 1
    rw [List.append_assoc, List.singleton_append]
    unfold stepT
    show (row ++ [l.text, r.text]).take ((row ++ [l.text, r.text]).length - 2) ++ [_] = row ++ [FT.text (.or l r)]
    rw [List.length_append]
    show (row ++ [l.text, r.text]).take (row.length + 2 - 2) ++ [[40] ++ List.getD _ (row.length + 2 - 2) [] ++ [32, 111, 114, 32] ++ List.getD _ (row.length + 2 - 1) [] ++ [41]] = _
    rw [show row.length + 2 - 2 = row.length by omega, show row.length + 2 - 1 = row.length + 1 by omega, List.take_left, List.getD_eq_getElem?_getD, List.getD_eq_getElem?_getD, List.getElem?_append_right (Nat.le_refl _), List.getElem?_append_right (by omega), Nat.sub_self, show row.length + 1 - row.length = 1 by omega]
    rfl
def sumT (row : List (List Nat)) : Nat := (row.map List.length).sum
theorem sumT_app (a b : List (List Nat)) : sumT (a ++ b) = sumT a + sumT b := by unfold sumT; rw [List.map_append, List.sum_append]
theorem sumT_one (a : List Nat) : sumT [a] = a.length := by simp [sumT]
theorem two_last {row : List (List Nat)} (h : 2 ≤ row.length) : ∃ r0 a b, row = r0 ++ [a, b] ∧ row.take (row.length - 2) = r0 ∧ row[row.length - 2]? = some a ∧ row[row.length - 1]? = some b := by
  obtain ⟨r1, b, rfl, e1⟩ := snoc (l := row) (n := row.length - 1) (by omega)
  obtain ⟨r0, a, rfl, e2⟩ := snoc (l := r1) (n := r1.length - 1) (by rw [List.length_append, List.length_singleton] at h; omega)
  refine ⟨r0, a, b, by rw [List.append_assoc]; rfl, ?_, ?_, ?_⟩
  · rw [List.append_assoc, List.length_append]
    show (r0 ++ [a, b]).take (r0.length + 2 - 2) = r0
    rw [Nat.add_sub_cancel, List.take_left]
  · rw [List.append_assoc, List.length_append]
    show (r0 ++ [a, b])[r0.length + 2 - 2]? = _
    rw [Nat.add_sub_cancel, List.getElem?_append_right (Nat.le_refl _), Nat.sub_self]; rfl
  · rw [List.append_assoc, List.length_append]
    show (r0 ++ [a, b])[r0.length + 2 - 1]? = _
    rw [List.getElem?_append_right (by omega), show r0.length + 2 - 1 - r0.length = 1 by omega]; rfl
end Go.Proofs.Ytfghccppoilfhaa.V
namespace Go.Proofs.Ytfghccppoilfhaa.V
open Go.RowKit
attribute [local irreducible] Fn FnN FnR OpVC DLe

theorem le_str {x y : ByteArray} {a b : List Nat} (hx : x = strB a) (hy : y = strB b) (h : a.length + b.length ≤ 1000000000) : ((x.size + y.size : Nat) : Int) ≤ 9223372036854775807 := by subst hx hy; exact str_le h
theorem app_str {x y : ByteArray} {a b : List Nat} (hx : x = strB a) (hy : y = strB b) : x ++ y = strB (a ++ b) := by subst hx hy; exact strB_append a b
theorem word_fn (op : Int) (h1 : 1 ≤ op) (h2 : op ≤ 10) : Fn Try.prog 23 [intD op] fun d => d = strD (opT op) := by
  refine fnOf [] Try.func23 rfl (by kernel_rfl) (Nat.le_of_ble_eq_true rfl) ?_
  rcases (by omega : op = 1 ∨ op = 2 ∨ op = 3 ∨ op = 4 ∨ op = 5 ∨ op = 6 ∨ op = 7 ∨ op = 8 ∨ op = 9 ∨ op = 10) with rfl | rfl | rfl | rfl | rfl | rfl | rfl | rfl | rfl | rfl
  all_goals
    conv => whnf
    (refine ⟨by decide, ?_⟩; conv => whnf)
    rfl
def DgAt (n : Nat) (g : Nat × List Nat × Bool) : Prop := (g.2.2 = true → dgs n = dgs g.1 ++ g.2.1) ∧ (g.2.2 = false → g.2.1 = dgs n) ∧ g.1 ≤ n
theorem DgAt.step {n m : Nat} {out : List Nat} (hg : DgAt n (m, out, true)) : m ≤ n ∧ out.length ≤ (dgs n).length ∧ DgAt n (m / 10, (48 + m % 10) :: out, decide (0 < m / 10)) := by
  obtain ⟨h1, _, h3⟩ := hg
  have h1 := h1 rfl
  dsimp only at h1 h3
  refine ⟨h3, by rw [h1]; simp, fun g => ?_, fun g => ?_, by show m / 10 ≤ n; omega⟩
  · have g := of_decide_eq_true g
    dsimp only
    rw [h1, dgs_ge (n := m) (by omega)]
    simp
  · have g := of_decide_eq_false g
    dsimp only
    rw [h1, dgs_lt (n := m) (by omega), show m % 10 = m by omega]
    rfl
theorem digitsF_fn (n : Nat) (h : n < 10000000000) : Fn Try.prog 25 [intD n] fun d => d = strD (dgs n) := by
  refine fnOf [] Try.func25 rfl (by kernel_rfl) (Nat.le_of_ble_eq_true rfl) ?_
  have hlen := dgs_len 9 n (by omega)
  conv => whnf
  refine ⟨Nat × List Nat × Bool, fun g => ⟨[(4, boolD g.2.2), (3, strD g.2.1), (0, intD g.1)], [], 0, ([], 0)⟩,
    DgAt n, fun g => match g.2.2 with | true => g.1 + 1 | false => 0, ⟨(n, [], true), [], [], ?_, ⟨fun _ => by simp, fun h => (by cases h), Nat.le_refl _⟩⟩, ?_⟩
  · repeat' (first | exact trivial | exact .inl (DLe.refl _) | exact .inl (DLe.nil _ _) | (refine .inr ⟨rfl, _, ?_, rfl⟩; rfl) | exact rfl | exact .inl rfl | exact .inr ⟨rfl, rfl, rfl, rfl⟩ | exact Nat.zero_le _ | constructor)
  · rintro ⟨m, out, ok⟩ hg
    cases ok with
    | false =>
      dsimp only
      conv => whnf
      have hd : out = dgs n := hg.2.1 rfl
      rw [hd]
    | true =>
      obtain ⟨hm, ho, hnext⟩ := DgAt.step hg
      have e1 : IntKind.u8.wrap (IntKind.i64.wrap (48 + (m : Int).tmod 10)) = ((48 + m % 10 : Nat) : Int) := by
        rw [Int.tmod_eq_emod_of_nonneg (by omega), IntWalk.i64_in _ (by omega), u8_small (by omega)]; omega
      have e2 : IntKind.i64.wrap ((m : Int).tdiv 10) = ((m / 10 : Nat) : Int) := by
        rw [Int.tdiv_eq_ediv_of_nonneg (by omega), IntWalk.i64_in _ (by omega)]; omega
      have e3 : decide (0 < ((m / 10 : Nat) : Int)) = decide (0 < m / 10) := decide_eq_decide.2 (by omega)
      dsimp only
      conv => whnf
      refine ⟨by decide, ?_⟩
      conv => whnf
      (refine ⟨by decide, ?_⟩; conv => whnf)
      refine op_bytesStr (L := [((48 + m % 10 : Nat) : Int)]) ttH rfl rfl rfl rfl ?_ rfl ?_
      · exact congrArg (fun x => some [[u8D x]]) e1
      rw [bytesOf_str, show [((48 + m % 10 : Nat) : Int)].map Int.toNat = [48 + m % 10] from rfl]
      conv => whnf
      refine ⟨str_le (by simp; omega), ?_⟩
      rw [strB_append]
      conv => whnf
      refine ⟨by decide, ?_⟩
      conv => whnf
      rw [e2]
      conv => whnf
      rw [e3]
      refine ⟨(m / 10, (48 + m % 10) :: out, decide (0 < m / 10)), [], [], ?_, hnext, ?_⟩
      · repeat' (first | exact trivial | exact .inl (DLe.refl _) | exact .inl (DLe.nil _ _) | (refine .inr ⟨rfl, _, ?_, rfl⟩; rfl) | exact rfl | exact .inl rfl | exact .inr ⟨rfl, rfl, rfl, rfl⟩ | exact Nat.zero_le _ | constructor)
      · show (match decide (0 < m / 10) with | true => m / 10 + 1 | false => 0) < m + 1
        cases h9 : decide (0 < m / 10) with
        | true => have := of_decide_eq_true h9; show m / 10 + 1 < m + 1; omega
        | false => exact Nat.succ_pos _
set_option maxHeartbeats 4000000 in
theorem one_fn (x : FSt) (h : (FT.leaf x).ok) (ha : x.addr < 4294967296) : Fn Try.prog 14 [.agg (fstD x)] fun d => d = strD (oneT x) := by
  refine fnOf [(4, [0, 1, 4, 5, 9, 10, 2, 3, 6, 7, 8, 11, 12, 13]), (8, [0, 1, 4, 5, 2, 3, 6, 7, 8])] Try.func14 rfl (by kernel_rfl) (Nat.le_of_ble_eq_true rfl) ?_
  obtain ⟨hb, h1, h2⟩ := h
  obtain ⟨n0, n1, n2⟩ := bare_num hb
  obtain ⟨op, a, n⟩ := x
  dsimp only at h1 h2 n0 n1 n2 ha
  obtain ⟨n, rfl⟩ : ∃ k : Nat, n = (k : Int) := ⟨n.toNat, by omega⟩
  have hw := word_fn op h1 h2
  have hd := digitsF_fn n (by omega)
  have ht := text_fn join_c a ha
  have lw := (opT_small op h1 h2).1
  have ld := dgs_short (n := n) (by omega)
  have lt := txt_len a
  have e : (n : Int).toNat = n := rfl
  unfold oneT netT
  dsimp only
  rw [e]
  generalize txt a = ta at *
  generalize dgs n = dn at *
  by_cases q1 : op = 5 ∨ op = 6
  · rcases q1 with rfl | rfl
    all_goals
      generalize opT _ = w at *
      conv => whnf
      (refine CallVC.pure (hw) rfl ?_; rintro _ rfl; conv => whnf)
      (refine ⟨le_str (x := strB (w)) (y := ⟨#[32]⟩) (a := w) (b := [32]) rfl rfl (by simp; omega), ?_⟩; rw [app_str (x := strB (w)) (y := ⟨#[32]⟩) (a := w) (b := [32]) rfl rfl]; conv => whnf)
      (refine CallVC.pure (ht) rfl ?_; rintro _ rfl; conv => whnf)
      (refine ⟨le_str (x := strB (w ++ [32])) (y := strB (ta)) (a := w ++ [32]) (b := ta) rfl rfl (by simp; omega), ?_⟩; rw [app_str (x := strB (w ++ [32])) (y := strB (ta)) (a := w ++ [32]) (b := ta) rfl rfl]; conv => whnf)
      (refine ⟨le_str (x := strB (w ++ [32] ++ ta)) (y := ⟨#[47]⟩) (a := w ++ [32] ++ ta) (b := [47]) rfl rfl (by simp; omega), ?_⟩; rw [app_str (x := strB (w ++ [32] ++ ta)) (y := ⟨#[47]⟩) (a := w ++ [32] ++ ta) (b := [47]) rfl rfl]; conv => whnf)
      (refine CallVC.pure (hd) rfl ?_; rintro _ rfl; conv => whnf)
      (refine ⟨le_str (x := strB (w ++ [32] ++ ta ++ [47])) (y := strB (dn)) (a := w ++ [32] ++ ta ++ [47]) (b := dn) rfl rfl (by simp; omega), ?_⟩; rw [app_str (x := strB (w ++ [32] ++ ta ++ [47])) (y := strB (dn)) (a := w ++ [32] ++ ta ++ [47]) (b := dn) rfl rfl]; conv => whnf)
      simp only [List.append_assoc, List.cons_append, List.nil_append]
      rfl
  by_cases q2 : op = 7 ∨ op = 8 ∨ op = 10
  · rcases q2 with rfl | rfl | rfl
    all_goals
      generalize opT _ = w at *
      conv => whnf
      (refine CallVC.pure (hw) rfl ?_; rintro _ rfl; conv => whnf)
      (refine ⟨le_str (x := strB (w)) (y := ⟨#[32]⟩) (a := w) (b := [32]) rfl rfl (by simp; omega), ?_⟩; rw [app_str (x := strB (w)) (y := ⟨#[32]⟩) (a := w) (b := [32]) rfl rfl]; conv => whnf)
      (refine CallVC.pure (hd) rfl ?_; rintro _ rfl; conv => whnf)
      (refine ⟨le_str (x := strB (w ++ [32])) (y := strB (dn)) (a := w ++ [32]) (b := dn) rfl rfl (by simp; omega), ?_⟩; rw [app_str (x := strB (w ++ [32])) (y := strB (dn)) (a := w ++ [32]) (b := dn) rfl rfl]; conv => whnf)
      simp only [List.append_assoc, List.cons_append, List.nil_append]
      rfl
  rcases (by omega : op = 1 ∨ op = 2 ∨ op = 3 ∨ op = 4 ∨ op = 9) with rfl | rfl | rfl | rfl | rfl
  all_goals
    generalize opT _ = w at *
    conv => whnf
    (refine CallVC.pure (hw) rfl ?_; rintro _ rfl; conv => whnf)
    try rfl

set_option maxHeartbeats 8000000 in
theorem printP_fn (f : List FSt) (t : FT) (ht : f = t.flat) (hto : t.ok) (hr : rightF f = true) (ha : ∀ x, x ∈ f → x.addr < 4294967296) : Fn Try.prog 6 [rowsF f] fun d => d = strD t.text := by
  refine fnOf [] Try.func6 rfl (by kernel_rfl) (Nat.le_of_ble_eq_true rfl) ?_
  have hrf := right_fn f
  rw [hr] at hrf
  have h3 := right_go hr
  have hev : evT [] f = [t.text] := by
    have := evT_tree t hto [] []
    rw [List.append_nil] at this
    rw [ht, this]; rfl
  have hon : ∀ x, x ∈ f → 1 ≤ x.op → x.op ≤ 10 → bareB x = true → Fn Try.prog 14 [.agg (fstD x)] fun d => d = strD (oneT x) := fun x hx h1 h2 hb => one_fn x ⟨hb, h1, h2⟩ (ha x hx)
  conv => whnf
  (refine CallVC.pure (hrf) rfl ?_; rintro _ rfl; conv => whnf)
  refine ⟨Nat × List (List Nat), fun g => ⟨[(12, intD g.1), (11, intD f.length), (10, rowsF f), (3, .grow 0)], [(0, .grow (List Nat) 9 1 strE g.2)], 1, ([], 0)⟩,
    fun g => g.1 ≤ f.length ∧ g.2.length ≤ g.1 ∧ goR g.2.length (f.drop g.1) = some 1 ∧ evT g.2 (f.drop g.1) = [t.text] ∧ sumT g.2 ≤ 40 * g.1, fun g => f.length - g.1, ⟨(0, []), [], [0], ?_, Nat.zero_le _, Nat.zero_le _, h3.1, hev, Nat.zero_le _⟩, ?_⟩
  · repeat' (first | exact trivial | exact .inl (DLe.refl _) | exact .inl (DLe.nil _ _) | (refine .inr ⟨rfl, _, ?_, rfl⟩; rfl) | exact rfl | exact .inl rfl | exact .inr ⟨rfl, rfl, rfl, rfl⟩ | exact Nat.zero_le _ | constructor)
  rintro ⟨k, row⟩ ⟨hk, hn, hg, he, hb⟩
  dsimp only at hk hn hg he hb
  dsimp only
  have e0 := wrapN (n := k) (by omega)
  conv => whnf
  refine Fork.intro (fun q1 => ?_) (fun q1 => ?_)
  · have q1 : k < f.length := by have := of_decide_eq_true q1; omega
    obtain ⟨x, hx⟩ : ∃ x, f[k]? = some x := ⟨_, List.getElem?_eq_getElem q1⟩
    have hd : f.drop k = x :: f.drop (k + 1) := by
      rw [List.drop_eq_getElem_cons q1]
      congr 1
      rw [List.getElem?_eq_getElem q1] at hx
      injection hx
    rw [hd, goR] at hg
    rw [hd, evT] at he
    have hbare : bareB x = true := by
      cases hq : bareB x with
      | true => rfl
      | false => rw [hq] at hg; cases hg
    rw [hbare] at hg
    dsimp only at hg
    have htk : ¬ row.length < takesN x.op := fun hq => by
      rw [decide_eq_true hq] at hg; cases hg
    rw [decide_eq_false htk] at hg
    dsimp only at hg
    have hbo := bare_op hbare
    have honx := hon x (List.mem_of_getElem? hx)
    conv => whnf
    refine ⟨rfl, ⟨by omega, by omega⟩, fun y hy => ?_⟩
    obtain rfl : x = y := Option.some.inj (hx.symm.trans hy)
    conv => whnf
    unfold stepT at he
    unfold takesN at hg htk
    refine Fork.intro (fun q => ?_) (fun q => ?_)
    · rw [show decide (x.op = 11) = true from q] at he hg htk
      dsimp only at he hg htk
      have e2 : IntKind.i64.wrap ((row.length : Int) - 2) = ((row.length - 2 : Nat) : Int) := by rw [IntWalk.i64_in _ (by omega)]; omega
      have e1 : IntKind.i64.wrap ((row.length : Int) - 1) = ((row.length - 1 : Nat) : Int) := by rw [IntWalk.i64_in _ (by omega)]; omega
      obtain ⟨r0, va, vb, hrow, htake, ga, gb⟩ := two_last (row := row) (by omega)
      rw [getT_of ga, getT_of gb] at he
      have hsum : sumT r0 + (va.length + vb.length) ≤ 40 * k := by rw [hrow, sumT_app, show [va, vb] = [va] ++ [vb] from rfl, sumT_app, sumT_one, sumT_one] at hb; exact hb
      conv => whnf
      rw [e2]
      refine ⟨rfl, ⟨by omega, by omega, by omega⟩, ?_⟩
      conv => whnf
      rw [e2]
      refine ⟨rfl, ⟨by omega, by omega⟩, ?_⟩
      conv => whnf
      refine ⟨rfl, by omega, fun y hy => ?_⟩
      obtain rfl : va = y := Option.some.inj (ga.symm.trans hy)
      conv => whnf
      (refine ⟨le_str (x := ⟨#[40]⟩) (y := strB (va)) (a := [40]) (b := va) rfl rfl (by simp; omega), ?_⟩; rw [app_str (x := ⟨#[40]⟩) (y := strB (va)) (a := [40]) (b := va) rfl rfl]; conv => whnf)
      (refine ⟨le_str (x := strB ([40] ++ va)) (y := ⟨#[32, 97, 110, 100, 32]⟩) (a := [40] ++ va) (b := [32, 97, 110, 100, 32]) rfl rfl (by simp; omega), ?_⟩; rw [app_str (x := strB ([40] ++ va)) (y := ⟨#[32, 97, 110, 100, 32]⟩) (a := [40] ++ va) (b := [32, 97, 110, 100, 32]) rfl rfl]; conv => whnf)
      rw [e1]
      refine ⟨rfl, ⟨by omega, by omega⟩, ?_⟩
      conv => whnf
      refine ⟨rfl, by omega, fun y hy => ?_⟩
      obtain rfl : vb = y := Option.some.inj (gb.symm.trans hy)
      conv => whnf
      (refine ⟨le_str (x := strB ([40] ++ va ++ [32, 97, 110, 100, 32])) (y := strB (vb)) (a := [40] ++ va ++ [32, 97, 110, 100, 32]) (b := vb) rfl rfl (by simp; omega), ?_⟩; rw [app_str (x := strB ([40] ++ va ++ [32, 97, 110, 100, 32])) (y := strB (vb)) (a := [40] ++ va ++ [32, 97, 110, 100, 32]) (b := vb) rfl rfl]; conv => whnf)
      (refine ⟨le_str (x := strB ([40] ++ va ++ [32, 97, 110, 100, 32] ++ vb)) (y := ⟨#[41]⟩) (a := [40] ++ va ++ [32, 97, 110, 100, 32] ++ vb) (b := [41]) rfl rfl (by simp; omega), ?_⟩; rw [app_str (x := strB ([40] ++ va ++ [32, 97, 110, 100, 32] ++ vb)) (y := ⟨#[41]⟩) (a := [40] ++ va ++ [32, 97, 110, 100, 32] ++ vb) (b := [41]) rfl rfl]; conv => whnf)
      refine ⟨by decide, ?_⟩
      conv => whnf
      generalize hnew : [40] ++ va ++ [32, 97, 110, 100, 32] ++ vb ++ [41] = new at *
      have hnl : new.length = va.length + vb.length + 7 := by rw [← hnew]; simp; omega
      refine op_appendCap (m := row.length - 2) (L0 := row) (β := List Nat) (enc := strE) (L := row.take (row.length - 2) ++ [new]) ttH rfl rfl rfl (by omega) (by omega) rfl rfl rfl (by decide) rfl rfl rfl (by exact Nat.one_pos) (by rw [List.map_append, List.map_take]; rfl) (fun _ => rfl) (by rw [List.length_append, List.length_take]; show _ + 1 ≤ _; omega) (by rw [List.length_append, List.length_take]; show (_ + 1) * 16 ≤ _; omega) ?_
      conv => whnf
      rw [e0]
      refine ⟨(k + 1, row.take (row.length - 2) ++ [new]), [(0, 2)], [], ?_, ⟨by show k + 1 ≤ f.length; omega, by rw [List.length_append, List.length_take]; show _ + 1 ≤ k + 1; omega, by rw [List.length_append, List.length_take]; show goR (_ + 1) _ = _; rw [show min (row.length - 2) row.length + 1 = row.length + 1 - 2 by omega]; exact hg, he, by show sumT (row.take (row.length - 2) ++ [new]) ≤ 40 * (k + 1); rw [htake, sumT_app, sumT_one]; omega⟩, by show f.length - (k + 1) < f.length - k; omega⟩
      repeat' (first | exact trivial | exact .inl (DLe.refl _) | exact .inl (DLe.nil _ _) | (refine .inr ⟨rfl, _, ?_, rfl⟩; rfl) | exact rfl | exact .inl rfl | exact .inr ⟨rfl, rfl, rfl, rfl⟩ | exact Nat.zero_le _ | constructor)
    rw [show decide (x.op = 11) = false from q] at he hg htk
    have q11 : ¬ x.op = 11 := of_decide_eq_false q
    dsimp only at he hg htk
    conv => whnf
    refine Fork.intro (fun q => ?_) (fun q => ?_)
    · rw [show decide (x.op = 12) = true from q] at he hg htk
      dsimp only at he hg htk
      have e2 : IntKind.i64.wrap ((row.length : Int) - 2) = ((row.length - 2 : Nat) : Int) := by rw [IntWalk.i64_in _ (by omega)]; omega
      have e1 : IntKind.i64.wrap ((row.length : Int) - 1) = ((row.length - 1 : Nat) : Int) := by rw [IntWalk.i64_in _ (by omega)]; omega
      obtain ⟨r0, va, vb, hrow, htake, ga, gb⟩ := two_last (row := row) (by omega)
      rw [getT_of ga, getT_of gb] at he
      have hsum : sumT r0 + (va.length + vb.length) ≤ 40 * k := by rw [hrow, sumT_app, show [va, vb] = [va] ++ [vb] from rfl, sumT_app, sumT_one, sumT_one] at hb; exact hb
      conv => whnf
      rw [e2]
      refine ⟨rfl, ⟨by omega, by omega, by omega⟩, ?_⟩
      conv => whnf
      rw [e2]
      refine ⟨rfl, ⟨by omega, by omega⟩, ?_⟩
      conv => whnf
      refine ⟨rfl, by omega, fun y hy => ?_⟩
      obtain rfl : va = y := Option.some.inj (ga.symm.trans hy)
      conv => whnf
      (refine ⟨le_str (x := ⟨#[40]⟩) (y := strB (va)) (a := [40]) (b := va) rfl rfl (by simp; omega), ?_⟩; rw [app_str (x := ⟨#[40]⟩) (y := strB (va)) (a := [40]) (b := va) rfl rfl]; conv => whnf)
      (refine ⟨le_str (x := strB ([40] ++ va)) (y := ⟨#[32, 111, 114, 32]⟩) (a := [40] ++ va) (b := [32, 111, 114, 32]) rfl rfl (by simp; omega), ?_⟩; rw [app_str (x := strB ([40] ++ va)) (y := ⟨#[32, 111, 114, 32]⟩) (a := [40] ++ va) (b := [32, 111, 114, 32]) rfl rfl]; conv => whnf)
      rw [e1]
      refine ⟨rfl, ⟨by omega, by omega⟩, ?_⟩
      conv => whnf
      refine ⟨rfl, by omega, fun y hy => ?_⟩
      obtain rfl : vb = y := Option.some.inj (gb.symm.trans hy)
      conv => whnf
      (refine ⟨le_str (x := strB ([40] ++ va ++ [32, 111, 114, 32])) (y := strB (vb)) (a := [40] ++ va ++ [32, 111, 114, 32]) (b := vb) rfl rfl (by simp; omega), ?_⟩; rw [app_str (x := strB ([40] ++ va ++ [32, 111, 114, 32])) (y := strB (vb)) (a := [40] ++ va ++ [32, 111, 114, 32]) (b := vb) rfl rfl]; conv => whnf)
      (refine ⟨le_str (x := strB ([40] ++ va ++ [32, 111, 114, 32] ++ vb)) (y := ⟨#[41]⟩) (a := [40] ++ va ++ [32, 111, 114, 32] ++ vb) (b := [41]) rfl rfl (by simp; omega), ?_⟩; rw [app_str (x := strB ([40] ++ va ++ [32, 111, 114, 32] ++ vb)) (y := ⟨#[41]⟩) (a := [40] ++ va ++ [32, 111, 114, 32] ++ vb) (b := [41]) rfl rfl]; conv => whnf)
      refine ⟨by decide, ?_⟩
      conv => whnf
      generalize hnew : [40] ++ va ++ [32, 111, 114, 32] ++ vb ++ [41] = new at *
      have hnl : new.length = va.length + vb.length + 6 := by rw [← hnew]; simp; omega
      refine op_appendCap (m := row.length - 2) (L0 := row) (β := List Nat) (enc := strE) (L := row.take (row.length - 2) ++ [new]) ttH rfl rfl rfl (by omega) (by omega) rfl rfl rfl (by decide) rfl rfl rfl (by exact Nat.one_pos) (by rw [List.map_append, List.map_take]; rfl) (fun _ => rfl) (by rw [List.length_append, List.length_take]; show _ + 1 ≤ _; omega) (by rw [List.length_append, List.length_take]; show (_ + 1) * 16 ≤ _; omega) ?_
      conv => whnf
      rw [e0]
      refine ⟨(k + 1, row.take (row.length - 2) ++ [new]), [(0, 2)], [], ?_, ⟨by show k + 1 ≤ f.length; omega, by rw [List.length_append, List.length_take]; show _ + 1 ≤ k + 1; omega, by rw [List.length_append, List.length_take]; show goR (_ + 1) _ = _; rw [show min (row.length - 2) row.length + 1 = row.length + 1 - 2 by omega]; exact hg, he, by show sumT (row.take (row.length - 2) ++ [new]) ≤ 40 * (k + 1); rw [htake, sumT_app, sumT_one]; omega⟩, by show f.length - (k + 1) < f.length - k; omega⟩
      repeat' (first | exact trivial | exact .inl (DLe.refl _) | exact .inl (DLe.nil _ _) | (refine .inr ⟨rfl, _, ?_, rfl⟩; rfl) | exact rfl | exact .inl rfl | exact .inr ⟨rfl, rfl, rfl, rfl⟩ | exact Nat.zero_le _ | constructor)
    rw [show decide (x.op = 12) = false from q] at he hg htk
    have q12 : ¬ x.op = 12 := of_decide_eq_false q
    dsimp only at he hg htk
    conv => whnf
    refine Fork.intro (fun q => ?_) (fun q => ?_)
    · rw [show decide (x.op = 13) = true from q] at he hg htk
      dsimp only at he hg htk
      have e1 : IntKind.i64.wrap ((row.length : Int) - 1) = ((row.length - 1 : Nat) : Int) := by rw [IntWalk.i64_in _ (by omega)]; omega
      obtain ⟨r0, vb, hrow, hrl⟩ := snoc (l := row) (n := row.length - 1) (by omega)
      have gb : row[row.length - 1]? = some vb := by rw [← hrl, hrow, List.getElem?_append_right (Nat.le_refl _), Nat.sub_self]; rfl
      rw [getT_of gb] at he
      have hsum : sumT r0 + vb.length ≤ 40 * k := by rw [hrow, sumT_app, sumT_one] at hb; exact hb
      conv => whnf
      rw [e1]
      refine ⟨rfl, ⟨by omega, by omega⟩, ?_⟩
      conv => whnf
      refine ⟨rfl, by omega, fun y hy => ?_⟩
      obtain rfl : vb = y := Option.some.inj (gb.symm.trans hy)
      conv => whnf
      (refine ⟨le_str (x := ⟨#[110, 111, 116, 32]⟩) (y := strB (vb)) (a := [110, 111, 116, 32]) (b := vb) rfl rfl (by simp; omega), ?_⟩; rw [app_str (x := ⟨#[110, 111, 116, 32]⟩) (y := strB (vb)) (a := [110, 111, 116, 32]) (b := vb) rfl rfl]; conv => whnf)
      refine ⟨rfl, ⟨by omega, by omega⟩, ?_⟩
      conv => whnf
      refine ⟨rfl, by omega, fun y hy => ?_⟩
      obtain rfl : vb = y := Option.some.inj (gb.symm.trans hy)
      refine ⟨rfl, [110, 111, 116, 32] ++ vb, rfl, ?_⟩
      conv => whnf
      rw [e0]
      refine ⟨(k + 1, row.set (row.length - 1) ([110, 111, 116, 32] ++ vb)), [], [], ?_, ⟨by show k + 1 ≤ f.length; omega, by rw [List.length_set]; show row.length ≤ k + 1; omega, by rw [List.length_set]; exact hg, he, ?_⟩, by show f.length - (k + 1) < f.length - k; omega⟩
      · repeat' (first | exact trivial | exact .inl (DLe.refl _) | exact .inl (DLe.nil _ _) | (refine .inr ⟨rfl, _, ?_, rfl⟩; rfl) | exact rfl | exact .inl rfl | exact .inr ⟨rfl, rfl, rfl, rfl⟩ | exact Nat.zero_le _ | constructor)
      · show sumT (row.set (row.length - 1) ([110, 111, 116, 32] ++ vb)) ≤ 40 * (k + 1)
        rw [← hrl, hrow, List.set_append_right _ _ (Nat.le_refl _), Nat.sub_self]
        show sumT (r0 ++ [[110, 111, 116, 32] ++ vb]) ≤ _
        rw [sumT_app, sumT_one, List.length_append]
        simp only [List.length_cons, List.length_nil]
        omega
    rw [show decide (x.op = 13) = false from q] at he hg htk
    dsimp only at he hg htk
    conv => whnf
    have hop : 1 ≤ x.op ∧ x.op ≤ 10 := by
      have q13 : ¬ x.op = 13 := of_decide_eq_false q
      obtain ⟨b1, b2, _⟩ := hbo
      omega
    have hol := oneT_len (x := x) ⟨hbare, hop.1, hop.2⟩
    (refine CallVC.pure (honx hop.1 hop.2 hbare) rfl ?_; rintro _ rfl; conv => whnf)
    refine ⟨by decide, ?_⟩
    conv => whnf
    refine ⟨List Nat, strE, row ++ [oneT x], (by rw [List.map_append]; rfl), fun _ => rfl, by rw [List.length_append]; show row.length + 1 ≤ _; omega, by rw [List.length_append]; show (row.length + 1) * 16 ≤ _; omega, rfl, ?_⟩
    conv => whnf
    rw [e0]
    refine ⟨(k + 1, row ++ [oneT x]), [(0, 2)], [], ?_, ⟨by show k + 1 ≤ f.length; omega, by rw [List.length_append]; show row.length + 1 ≤ k + 1; omega, by rw [List.length_append]; exact hg, he, by show sumT (row ++ [oneT x]) ≤ 40 * (k + 1); rw [sumT_app, sumT_one]; omega⟩, by show f.length - (k + 1) < f.length - k; omega⟩
    repeat' (first | exact trivial | exact .inl (DLe.refl _) | exact .inl (DLe.nil _ _) | (refine .inr ⟨rfl, _, ?_, rfl⟩; rfl) | exact rfl | exact .inl rfl | exact .inr ⟨rfl, rfl, rfl, rfl⟩ | exact Nat.zero_le _ | constructor)
  · have q1 : k = f.length := by have := of_decide_eq_false q1; omega
    rw [q1, List.drop_length, evT] at he
    subst he
    conv => whnf
    refine ⟨rfl, ⟨Int.le_refl _, Int.zero_lt_one⟩, ?_⟩
    conv => whnf
    refine ⟨rfl, Nat.zero_lt_one, fun y hy => ?_⟩
    obtain rfl : t.text = y := Option.some.inj hy
    conv => whnf
end Go.Proofs.Ytfghccppoilfhaa.V
namespace Go.Proofs.Ytfghccppoilfhaa.V
open Go.RowKit
attribute [local irreducible] Fn FnN FnR OpVC DLe

theorem low_byt {l : List Nat} (h : ∀ c, c ∈ l → c < 128) : Byt l := fun c hc => by have := h c hc; omega
theorem wfold_next {l : List Nat} {k x : Nat} (hx : l[k]? = some x) : (l.take (k + 1)).foldl wst ([], []) = wst ((l.take k).foldl wst ([], [])) x := by
  rw [List.take_add_one, hx, List.foldl_append]; rfl
theorem nil_beq (w : List Nat) : ((strB w).toList == (ByteArray.mk #[]).toList) = decide (w = []) := by
  rw [Lib.toList_data, Lib.toList_data]
  cases w with
  | nil => rfl
  | cons c w => rfl
set_option maxHeartbeats 4000000 in
theorem words_fn (l : List Nat) (hl : ∀ c, c ∈ l → c < 128) (hlen : l.length ≤ 100000) : Fn Try.prog 19 [strD l] fun d => d = .rows (List Nat) 1 strE (wend (l.foldl wst ([], []))) := by
  refine fnOf [] Try.func19 rfl (by kernel_rfl) (Nat.le_of_ble_eq_true rfl) ?_
  conv => whnf
  refine op_rangeStr ttH rfl rfl rfl ?_
  conv => whnf
  refine ⟨Nat × WS, fun g => ⟨[(10, .loc 2 0), (5, .fn 29 [] [.loc 1 0, .loc 0 0]), (4, .loc 1 0), (3, .loc 0 0)], [(2, strI (strB l) g.1), (1, .cells 9 [strD g.2.2]), (0, .cells 40 [.grow 3]), (3, .grow (List Nat) 9 1 strE g.2.1)], 4, ([], 0)⟩,
    fun g => g.1 ≤ l.length ∧ g.2 = (l.take g.1).foldl wst ([], []), fun g => l.length - g.1, ⟨(0, ([], [])), [], [3], ?_, Nat.zero_le _, rfl⟩, ?_⟩
  · repeat' (first | exact trivial | exact .inl (DLe.refl _) | exact .inl (DLe.nil _ _) | (refine .inr ⟨rfl, _, ?_, rfl⟩; rfl) | exact rfl | exact .inl rfl | exact .inr ⟨rfl, rfl, rfl, rfl⟩ | exact Nat.zero_le _ | constructor)
  rintro ⟨k, o, w⟩ ⟨hk, hs⟩
  dsimp only at hk hs
  have hsz : o.length + w.length ≤ k := by
    have h1 := wfold_len (l.take k) ([], [])
    rw [← hs, List.length_take] at h1
    have h2 : o.length + w.length ≤ 0 + 0 + min k l.length := h1
    omega
  dsimp only
  conv => whnf
  refine op_nextStr rfl rfl rfl (fun c n hlt hd => ?_) (fun hge => ?_)
  · rw [strB_size] at hlt
    obtain ⟨x, hx⟩ : ∃ x, l[k]? = some x := ⟨_, List.getElem?_eq_getElem hlt⟩
    have hx7 := hl x (List.mem_of_getElem? hx)
    rw [decode_low (low_byt hl) hx hx7] at hd
    injection hd with hd1 hd2; subst hd1 hd2
    have hnx := wfold_next hx
    rw [← hs] at hnx
    by_cases h32 : x = 32
    · subst h32
      conv => whnf
      refine goIn [] Try.func29 rfl (by kernel_rfl) (Nat.le_of_ble_eq_true rfl) ?_
      conv => whnf
      rw [nil_beq]
      cases w with
      | nil =>
        conv => whnf
        refine ⟨(k + 1, o, []), [], [], ?_, ⟨by show k + 1 ≤ l.length; omega, hnx.symm⟩, by show l.length - (k + 1) < l.length - k; omega⟩
        repeat' (first | exact trivial | exact .inl (DLe.refl _) | exact .inl (DLe.nil _ _) | (refine .inr ⟨rfl, _, ?_, rfl⟩; rfl) | exact rfl | exact .inl rfl | exact .inr ⟨rfl, rfl, rfl, rfl⟩ | exact Nat.zero_le _ | constructor)
      | cons c w =>
        conv => whnf
        refine ⟨by decide, ?_⟩
        conv => whnf
        refine ⟨List Nat, strE, o ++ [c :: w], (by rw [List.map_append]; rfl), fun _ => rfl, by rw [List.length_append]; show o.length + 1 ≤ _; omega, by rw [List.length_append]; show (o.length + 1) * 16 ≤ _; omega, rfl, ?_⟩
        conv => whnf
        refine ⟨(k + 1, o ++ [c :: w], []), [(3, 4)], [], ?_, ⟨by show k + 1 ≤ l.length; omega, hnx.symm⟩, by show l.length - (k + 1) < l.length - k; omega⟩
        repeat' (first | exact trivial | exact .inl (DLe.refl _) | exact .inl (DLe.nil _ _) | (refine .inr ⟨rfl, _, ?_, rfl⟩; rfl) | exact rfl | exact .inl rfl | exact .inr ⟨rfl, rfl, rfl, rfl⟩ | exact Nat.zero_le _ | constructor)
    by_cases h40 : x = 40
    · subst h40
      conv => whnf
      refine goIn [] Try.func29 rfl (by kernel_rfl) (Nat.le_of_ble_eq_true rfl) ?_
      conv => whnf
      rw [nil_beq]
      cases w with
      | nil =>
        conv => whnf
        refine op_runeStr ttH rfl rfl rfl rfl (by decide) ?_
        conv => whnf
        refine ⟨by decide, ?_⟩
        conv => whnf
        refine ⟨List Nat, strE, o ++ [[40]], (by rw [List.map_append]; rfl), fun _ => rfl, by rw [List.length_append]; show o.length + 1 ≤ _; omega, by rw [List.length_append]; show (o.length + 1) * 16 ≤ _; omega, rfl, ?_⟩
        conv => whnf
        refine ⟨(k + 1, o ++ [[40]], []), [(3, 4)], [], ?_, ⟨by show k + 1 ≤ l.length; omega, hnx.symm⟩, by show l.length - (k + 1) < l.length - k; omega⟩
        repeat' (first | exact trivial | exact .inl (DLe.refl _) | exact .inl (DLe.nil _ _) | (refine .inr ⟨rfl, _, ?_, rfl⟩; rfl) | exact rfl | exact .inl rfl | exact .inr ⟨rfl, rfl, rfl, rfl⟩ | exact Nat.zero_le _ | constructor)
      | cons c w =>
        conv => whnf
        refine ⟨by decide, ?_⟩
        conv => whnf
        refine ⟨List Nat, strE, o ++ [c :: w], (by rw [List.map_append]; rfl), fun _ => rfl, by rw [List.length_append]; show o.length + 1 ≤ _; omega, by rw [List.length_append]; show (o.length + 1) * 16 ≤ _; omega, rfl, ?_⟩
        conv => whnf
        refine op_runeStr ttH rfl rfl rfl rfl (by decide) ?_
        conv => whnf
        refine ⟨by decide, ?_⟩
        conv => whnf
        refine ⟨List Nat, strE, o ++ [c :: w] ++ [[40]], (by rw [List.map_append]; rfl), fun _ => rfl, by rw [List.length_append, List.length_append]; show o.length + 1 + 1 ≤ _; omega, by rw [List.length_append, List.length_append]; show (o.length + 1 + 1) * 16 ≤ _; omega, rfl, ?_⟩
        conv => whnf
        refine ⟨(k + 1, o ++ [c :: w] ++ [[40]], []), [(3, 5)], [], ?_, ⟨by show k + 1 ≤ l.length; omega, hnx.symm⟩, by show l.length - (k + 1) < l.length - k; omega⟩
        repeat' (first | exact trivial | exact .inl (DLe.refl _) | exact .inl (DLe.nil _ _) | (refine .inr ⟨rfl, _, ?_, rfl⟩; rfl) | exact rfl | exact .inl rfl | exact .inr ⟨rfl, rfl, rfl, rfl⟩ | exact Nat.zero_le _ | constructor)
    by_cases h41 : x = 41
    · subst h41
      conv => whnf
      refine goIn [] Try.func29 rfl (by kernel_rfl) (Nat.le_of_ble_eq_true rfl) ?_
      conv => whnf
      rw [nil_beq]
      cases w with
      | nil =>
        conv => whnf
        refine op_runeStr ttH rfl rfl rfl rfl (by decide) ?_
        conv => whnf
        refine ⟨by decide, ?_⟩
        conv => whnf
        refine ⟨List Nat, strE, o ++ [[41]], (by rw [List.map_append]; rfl), fun _ => rfl, by rw [List.length_append]; show o.length + 1 ≤ _; omega, by rw [List.length_append]; show (o.length + 1) * 16 ≤ _; omega, rfl, ?_⟩
        conv => whnf
        refine ⟨(k + 1, o ++ [[41]], []), [(3, 4)], [], ?_, ⟨by show k + 1 ≤ l.length; omega, hnx.symm⟩, by show l.length - (k + 1) < l.length - k; omega⟩
        repeat' (first | exact trivial | exact .inl (DLe.refl _) | exact .inl (DLe.nil _ _) | (refine .inr ⟨rfl, _, ?_, rfl⟩; rfl) | exact rfl | exact .inl rfl | exact .inr ⟨rfl, rfl, rfl, rfl⟩ | exact Nat.zero_le _ | constructor)
      | cons c w =>
        conv => whnf
        refine ⟨by decide, ?_⟩
        conv => whnf
        refine ⟨List Nat, strE, o ++ [c :: w], (by rw [List.map_append]; rfl), fun _ => rfl, by rw [List.length_append]; show o.length + 1 ≤ _; omega, by rw [List.length_append]; show (o.length + 1) * 16 ≤ _; omega, rfl, ?_⟩
        conv => whnf
        refine op_runeStr ttH rfl rfl rfl rfl (by decide) ?_
        conv => whnf
        refine ⟨by decide, ?_⟩
        conv => whnf
        refine ⟨List Nat, strE, o ++ [c :: w] ++ [[41]], (by rw [List.map_append]; rfl), fun _ => rfl, by rw [List.length_append, List.length_append]; show o.length + 1 + 1 ≤ _; omega, by rw [List.length_append, List.length_append]; show (o.length + 1 + 1) * 16 ≤ _; omega, rfl, ?_⟩
        conv => whnf
        refine ⟨(k + 1, o ++ [c :: w] ++ [[41]], []), [(3, 5)], [], ?_, ⟨by show k + 1 ≤ l.length; omega, hnx.symm⟩, by show l.length - (k + 1) < l.length - k; omega⟩
        repeat' (first | exact trivial | exact .inl (DLe.refl _) | exact .inl (DLe.nil _ _) | (refine .inr ⟨rfl, _, ?_, rfl⟩; rfl) | exact rfl | exact .inl rfl | exact .inr ⟨rfl, rfl, rfl, rfl⟩ | exact Nat.zero_le _ | constructor)
    conv => whnf
    refine Fork.intro (fun q => absurd (of_decide_eq_true q) (by omega)) (fun _ => ?_)
    conv => whnf
    refine Fork.intro (fun q => absurd (of_decide_eq_true q) (by omega)) (fun _ => ?_)
    conv => whnf
    refine Fork.intro (fun q => absurd (of_decide_eq_true q) (by omega)) (fun _ => ?_)
    conv => whnf
    refine op_runeStr ttH rfl rfl rfl rfl hx7 ?_
    conv => whnf
    refine ⟨str_le (by show w.length + 1 ≤ _; omega), ?_⟩
    rw [strB_append]
    conv => whnf
    rw [wst_plain ⟨h32, h40, h41⟩] at hnx
    refine ⟨(k + 1, o, w ++ [x]), [], [], ?_, ⟨by show k + 1 ≤ l.length; omega, hnx.symm⟩, by show l.length - (k + 1) < l.length - k; omega⟩
    repeat' (first | exact trivial | exact .inl (DLe.refl _) | exact .inl (DLe.nil _ _) | (refine .inr ⟨rfl, _, ?_, rfl⟩; rfl) | exact rfl | exact .inl rfl | exact .inr ⟨rfl, rfl, rfl, rfl⟩ | exact Nat.zero_le _ | constructor)
  · rw [strB_size] at hge
    have hke : k = l.length := by omega
    rw [hke, List.take_length] at hs
    rw [← hs]
    conv => whnf
    refine goIn [] Try.func29 rfl (by kernel_rfl) (Nat.le_of_ble_eq_true rfl) ?_
    conv => whnf
    rw [nil_beq]
    cases w with
    | nil =>
      conv => whnf
      rfl
    | cons c w =>
      conv => whnf
      refine ⟨by decide, ?_⟩
      conv => whnf
      refine ⟨List Nat, strE, o ++ [c :: w], (by rw [List.map_append]; rfl), fun _ => rfl, by rw [List.length_append]; show o.length + 1 ≤ _; omega, by rw [List.length_append]; show (o.length + 1) * 16 ≤ _; omega, rfl, ?_⟩
      conv => whnf
      rfl
end Go.Proofs.Ytfghccppoilfhaa.V
namespace Go.Proofs.Ytfghccppoilfhaa.V
open Go.RowKit Go.Shelf Go.Lib
attribute [local irreducible] Fn FnN FnR OpVC DLe

def ixN (c : Nat) : List Nat → Nat → Int
  | [], _ => -1
  | x :: l, k => match decide (x = c) with
    | true => k
    | false => ixN c l (k + 1)
theorem indexByte_eq {c : Nat} (hc : c < 256) : ∀ (l : List Nat) (k : Nat), Byt l → (Lib.indexByte (l.map UInt8.ofNat) (UInt8.ofNat c) = -1 ∧ ixN c l k = -1) ∨ (0 ≤ Lib.indexByte (l.map UInt8.ofNat) (UInt8.ofNat c) ∧ ixN c l k = k + Lib.indexByte (l.map UInt8.ofNat) (UInt8.ofNat c))
  | [], k, _ => .inl ⟨rfl, rfl⟩
  | x :: l, k, h => by
    have ih := indexByte_eq hc l (k + 1) h.tail
    rw [List.map_cons, Lib.indexByte, ixN]
    by_cases hx : x = c
    · subst hx
      rw [decide_eq_true rfl]
      simp
    · have hne : UInt8.ofNat x ≠ UInt8.ofNat c := fun e => hx (ofNat_inj h.head hc e)
      rw [decide_eq_false hx]
      have hb : (UInt8.ofNat x == UInt8.ofNat c) = false := beq_eq_false_iff_ne.2 hne
      simp only [hb]
      rcases ih with ⟨i1, i2⟩ | ⟨i1, i2⟩
      · exact .inl ⟨by simp [i1], i2⟩
      · have hb2 : (Lib.indexByte (l.map UInt8.ofNat) (UInt8.ofNat c) == -1) = false := beq_eq_false_iff_ne.2 (by omega)
        rw [hb2]
        simp only [Bool.false_eq_true, if_false]
        exact .inr ⟨by omega, by rw [i2]; omega⟩
theorem indexS_fn (l : List Nat) (hl : Byt l) {c : Nat} (hc : c < 256) : Fn Try.prog 77 [strD l, strD [c]] fun d => d = intD (ixN c l 0) := by
  unfold Fn
  refine ⟨⟨_, Try.func77, rfl⟩, fun w B args' hB hr => ?_⟩
  match args', hr with
  | [], hr => have := hr.1; simp at this
  | [_], hr => have := hr.1; simp at this
  | _ :: _ :: _ :: _, hr => have := hr.1; simp at this
  | [v0, v1], hr =>
  have h0 := rep_v (hr.2 0 (strD l) v0 rfl rfl)
  have h1 := rep_v (hr.2 1 (strD [c]) v1 rfl rfl)
  subst h0 h1
  refine (Any.stringslite_Index_one lays219 (strB l) (UInt8.ofNat c) w).mono fun e w' ⟨h1, h2⟩ => ?_
  subst h2
  refine ⟨_, _, rfl, h1, Under.refl _ _, ?_⟩
  have h3 : Lib.indexByte (strB l).data.toList (UInt8.ofNat c) = ixN c l 0 := by
    rw [strB_data]
    rcases indexByte_eq hc l 0 hl with ⟨h, k⟩ | ⟨_, k⟩
    · rw [h, k]
    · rw [k]; simp
  rw [h3]
  exact .v
theorem ixN_mid (c : Nat) : ∀ (a b : List Nat) (k : Nat), (∀ x, x ∈ a → x ≠ c) → ixN c (a ++ c :: b) k = ((k + a.length : Nat) : Int)
  | [], b, k, _ => by show ixN c (c :: b) k = _; rw [ixN, decide_eq_true rfl]; rfl
  | x :: a, b, k, h => by
    show ixN c (x :: (a ++ c :: b)) k = _
    rw [ixN, decide_eq_false (h x List.mem_cons_self)]
    show ixN c (a ++ c :: b) (k + 1) = _
    rw [ixN_mid c a b (k + 1) fun y hy => h y (List.mem_cons_of_mem _ hy), List.length_cons]
    congr 1
    omega
theorem cutF_fn (a b : List Nat) (hl : Byt (a ++ 47 :: b)) (hlen : (a ++ 47 :: b).length ≤ 100000) (hn : ∀ x, x ∈ a → x ≠ 47) : Fn Try.prog 66 [strD (a ++ 47 :: b), strD [47]] fun d => d = .tup [strD a, strD b, boolD true] := by
  refine fnOf [] Try.func66 rfl (by kernel_rfl) (Nat.le_of_ble_eq_true rfl) ?_
  have hix := indexS_fn (a ++ 47 :: b) hl (c := 47) (by decide)
  rw [ixN_mid 47 a b 0 hn, Nat.zero_add] at hix
  have hll : (a ++ 47 :: b).length = a.length + 1 + b.length := by simp; omega
  have hsz : ((strB (a ++ 47 :: b)).size : Int) = ((a ++ 47 :: b).length : Int) := by rw [strB_size]
  have e1 : IntKind.i64.wrap ((a.length : Int) + 1) = ((a.length + 1 : Nat) : Int) := wrap_next (n := 100001) (by omega) (by decide)
  have e2 : IntKind.i64.wrap ((a.length : Int) + (((strB [47]).size : Nat) : Int)) = ((a.length + 1 : Nat) : Int) := by rw [strB_size]; exact e1
  have x1 : ((strB (a ++ 47 :: b)).extract ((0 : Nat) : Int).toNat ((a.length : Nat) : Int).toNat) = strB a := by
    rw [strB_extract]
    show strB (((a ++ 47 :: b).take a.length).drop 0) = _
    rw [List.take_left, List.drop_zero]
  have x2 : ((strB (a ++ 47 :: b)).extract ((a.length + 1 : Nat) : Int).toNat (((strB (a ++ 47 :: b)).size : Nat) : Int).toNat) = strB b := by
    rw [strB_extract, strB_size]
    show strB (((a ++ 47 :: b).take (a ++ 47 :: b).length).drop (a.length + 1)) = _
    rw [List.take_length, ← List.drop_drop, List.drop_left]
    rfl
  conv => whnf
  refine goIn [] Try.func74 rfl (by kernel_rfl) (Nat.le_of_ble_eq_true rfl) ?_
  conv => whnf
  (refine CallVC.pure (hix) rfl ?_; rintro _ rfl; conv => whnf)
  refine ⟨⟨by omega, by omega, by omega⟩, ?_⟩
  conv => whnf
  rw [e2]
  refine ⟨⟨by omega, by omega, by omega⟩, ?_⟩
  conv => whnf
  rw [x1, x2]
  rfl

/-! ### Numbers -/
def vN (l : List Nat) : Nat := l.foldl (fun a c => a * 10 + (c - 48)) 0
theorem vN_snoc (l : List Nat) (c : Nat) : vN (l ++ [c]) = vN l * 10 + (c - 48) := by unfold vN; rw [List.foldl_append]; rfl
theorem vN_dgs (n : Nat) : vN (dgs n) = n := by
  refine dgs_ind (p := fun n => vN (dgs n) = n) (fun n h => ?_) (fun n h ih => ?_) n
  · rw [dgs_lt h]; show 0 * 10 + (48 + n - 48) = n; omega
  · rw [dgs_ge h, vN_snoc, ih]; omega
theorem vN_le (l : List Nat) : ∀ r : List Nat, vN l ≤ vN (l ++ r) := by
  intro r
  induction r generalizing l with
  | nil => rw [List.append_nil]; exact Nat.le_refl _
  | cons c r ih =>
    have h1 := ih (l ++ [c])
    rw [List.append_assoc, List.singleton_append] at h1
    have h2 := vN_snoc l c
    omega
theorem dgs_head (n : Nat) : (1 < (dgs n).length → (dgs n)[0]? ≠ some 48) := by
  have : ∀ n : Nat, 0 < n → (dgs n)[0]? ≠ some 48 := fun n => by
    refine dgs_ind (p := fun n => 0 < n → (dgs n)[0]? ≠ some 48) (fun n h h0 => ?_) (fun n h ih h0 => ?_) n
    · rw [dgs_lt h]
      show some (48 + n) ≠ some 48
      intro e; injection e; omega
    · have h1 := ih (by omega)
      rw [dgs_ge h]
      have h2 := dgs_ne (n / 10)
      generalize dgs (n / 10) = l at *
      cases l with
      | nil => exact absurd rfl h2
      | cons x l => exact h1
  intro h
  by_cases h0 : 0 < n
  · exact this n h0
  · rw [dgs_lt (by omega)] at h
    exact absurd h (Nat.lt_irrefl _)
set_option maxHeartbeats 2000000 in
theorem numF_fn (m most : Nat) (hm : m ≤ most) (hmo : most ≤ 65535) : Fn Try.prog 58 [strD (dgs m), intD most] fun d => d = .tup [intD m, boolD true] := by
  refine fnOf [] Try.func58 rfl (by kernel_rfl) (Nat.le_of_ble_eq_true rfl) ?_
  have hdl := dgs_short (n := m) (by omega)
  have hb := dgs_byt m
  have hv := vN_dgs m
  have hh := dgs_head m
  have hd := dgs_is m
  have hne := dgs_ne m
  generalize dgs m = l at *
  have hpre : ∀ k, vN (l.take k) ≤ m := fun k => by
    have := vN_le (l.take k) (l.drop k)
    rw [List.take_append_drop, hv] at this
    exact this
  conv => whnf
  refine op_rangeStr ttH rfl rfl rfl ?_
  conv => whnf
  refine ⟨Nat, fun k => ⟨[(10, .loc 0 0), (6, intD (vN (l.take k) : Nat)), (1, intD most), (0, strD l)], [(0, strI (strB l) k)], 1, ([], 0)⟩,
    fun k => k ≤ l.length, fun k => l.length - k, ⟨0, [], [], ?_, Nat.zero_le _⟩, ?_⟩
  · repeat' (first | exact trivial | exact .inl (DLe.refl _) | exact .inl (DLe.nil _ _) | (refine .inr ⟨rfl, _, ?_, rfl⟩; rfl) | exact rfl | exact .inl rfl | exact .inr ⟨rfl, rfl, rfl, rfl⟩ | exact Nat.zero_le _ | constructor)
  intro k hk
  dsimp only
  have hp1 := hpre k
  have hp2 := hpre (k + 1)
  conv => whnf
  refine op_nextStr rfl rfl rfl (fun c n hlt hdc => ?_) (fun hge => ?_)
  · rw [strB_size] at hlt
    obtain ⟨x, hx⟩ : ∃ x, l[k]? = some x := ⟨_, List.getElem?_eq_getElem hlt⟩
    have hxd := hd x (List.mem_of_getElem? hx)
    rw [decode_low hb hx (by omega)] at hdc
    injection hdc with hd1 hd2; subst hd1 hd2
    have hsn : vN (l.take (k + 1)) = vN (l.take k) * 10 + (x - 48) := by rw [List.take_add_one, hx]; exact vN_snoc _ _
    rw [hsn] at hp2
    have e : IntKind.i64.wrap (IntKind.i64.wrap (((vN (l.take k) : Nat) : Int) * 10) + IntKind.i64.wrap (IntKind.i32.wrap ((x : Int) - 48))) = ((vN (l.take k) * 10 + (x - 48) : Nat) : Int) := by
      rw [IntWalk.i32_in _ (by omega), IntWalk.i64_in ((x : Int) - 48) (by omega), IntWalk.i64_in (((vN (l.take k) : Nat) : Int) * 10) (by omega), IntWalk.i64_in _ (by omega)]; omega
    have hcov : k + 1 ≤ l.length := hlt
    conv => whnf
    refine Fork.intro (fun q => absurd (of_decide_eq_true q) (by omega)) (fun _ => ?_)
    conv => whnf
    refine Fork.intro (fun q => absurd (of_decide_eq_true q) (by omega)) (fun _ => ?_)
    conv => whnf
    refine Fork.intro (fun q => ?_) (fun q => ?_)
    · conv => whnf
      refine ⟨⟨Int.le_refl _, by rw [strB_size]; omega⟩, fun b hbx => ?_⟩
      have hb0 : l[0]? = some b.toNat := strB_get hb hbx
      have q := of_decide_eq_true q
      have h48 : b.toNat ≠ 48 := fun h => hh (by omega) (by rw [hb0, h])
      conv => whnf
      refine Fork.intro (fun q => absurd (of_decide_eq_true q) (by omega)) (fun _ => ?_)
      conv => whnf
      rw [e]
      refine Fork.intro (fun q => absurd (of_decide_eq_true q) (by omega)) (fun _ => ?_)
      conv => whnf
      refine ⟨k + 1, [], [], ?_, hcov, by show l.length - (k + 1) < l.length - k; omega⟩
      rw [← hsn]
      repeat' (first | exact trivial | exact .inl (DLe.refl _) | exact .inl (DLe.nil _ _) | (refine .inr ⟨rfl, _, ?_, rfl⟩; rfl) | exact rfl | exact .inl rfl | exact .inr ⟨rfl, rfl, rfl, rfl⟩ | exact Nat.zero_le _ | constructor)
    · conv => whnf
      rw [e]
      refine Fork.intro (fun q => absurd (of_decide_eq_true q) (by omega)) (fun _ => ?_)
      conv => whnf
      refine ⟨k + 1, [], [], ?_, hcov, by show l.length - (k + 1) < l.length - k; omega⟩
      rw [← hsn]
      repeat' (first | exact trivial | exact .inl (DLe.refl _) | exact .inl (DLe.nil _ _) | (refine .inr ⟨rfl, _, ?_, rfl⟩; rfl) | exact rfl | exact .inl rfl | exact .inr ⟨rfl, rfl, rfl, rfl⟩ | exact Nat.zero_le _ | constructor)
  · rw [strB_size] at hge
    have hke : k = l.length := by omega
    rw [hke, List.take_length, hv]
    conv => whnf
    rw [nil_beq, decide_eq_false hne]
    rfl
theorem netF_fn (a n : Nat) (ha : a < 4294967296) (hn : n ≤ 32) : Fn Try.prog 57 [strD (txt a ++ 47 :: dgs n)] fun d => d = .tup [u32D a, intD n, boolD true] := by
  refine fnOf [] Try.func57 rfl (by kernel_rfl) (Nat.le_of_ble_eq_true rfl) ?_
  have htl := txt_len a
  have hdl := dgs_short (n := n) (by omega)
  have hcut := cutF_fn (txt a) (dgs n) ((txt_byt a).append (Byt.cons (by decide) (dgs_byt n))) (by simp; omega) (fun x hx => by have := txt_is a x hx; omega)
  have hnum := numF_fn n 32 hn (by decide)
  have hpar := parse_fn join_c (txt a) (txt_byt a)
  rw [pParse_txt ha] at hpar
  conv => whnf
  (refine CallVC.pure (hcut) rfl ?_; rintro _ rfl; conv => whnf)
  (refine CallVC.pure (hnum) rfl ?_; rintro _ rfl; conv => whnf)
  (refine CallVC.pure (hpar) rfl ?_; rintro _ rfl; conv => whnf)
  try rfl
theorem opT_inj : ∀ i : Nat, i < 11 → ∀ j : Nat, j < 11 → 1 ≤ i → 1 ≤ j → opT (i : Int) = opT (j : Int) → i = j := by decide
theorem opT_byt {op : Int} (h1 : 1 ≤ op) (h2 : op ≤ 10) : Byt (opT op) := fun c hc => by have := (opT_small op h1 h2).2.1 c hc; omega
theorem opT_beq (i j : Nat) (hi : 1 ≤ i ∧ i < 11) (hj : 1 ≤ j ∧ j < 11) : ((strB (opT (i : Int))).toList == (strB (opT (j : Int))).toList) = decide (i = j) := by
  rw [strB_beq (opT_byt (by omega) (by omega)) (opT_byt (by omega) (by omega))]
  exact decide_eq_decide.2 ⟨opT_inj i hi.2 j hj.2 hi.1 hj.1, fun h => by rw [h]⟩
theorem plainF_fn (i : Nat) (hi : 1 ≤ i ∧ i < 11) : Fn Try.prog 49 [strD (opT (i : Int))] fun d => d = intD i := by
  refine fnOf [] Try.func49 rfl (by kernel_rfl) (Nat.le_of_ble_eq_true rfl) ?_
  have hq := fun j hj => opT_beq i j hi hj
  have hw := fun (j : Nat) (hj : 1 ≤ j ∧ j < 11) => word_fn (j : Int) (by omega) (by omega)
  generalize opT (i : Int) = w at *
  conv => whnf
  refine ⟨Nat, fun k => ⟨[(3, intD k), (0, strD w)], [], 0, ([], 0)⟩, fun k => 1 ≤ k ∧ k ≤ i, fun k => 11 - k, ⟨1, [], [], ?_, Nat.le_refl _, hi.1⟩, ?_⟩
  · repeat' (first | exact trivial | exact .inl (DLe.refl _) | exact .inl (DLe.nil _ _) | (refine .inr ⟨rfl, _, ?_, rfl⟩; rfl) | exact rfl | exact .inl rfl | exact .inr ⟨rfl, rfl, rfl, rfl⟩ | exact Nat.zero_le _ | constructor)
  rintro k ⟨h1, h2⟩
  dsimp only
  have hqk := hq k ⟨h1, by omega⟩
  have hwk := hw k ⟨h1, by omega⟩
  have e0 := wrapN (n := k) (by omega)
  generalize opT (k : Int) = wk at *
  conv => whnf
  refine Fork.intro (fun _ => ?_) (fun q => absurd (of_decide_eq_false q) (by omega))
  conv => whnf
  (refine CallVC.pure (hwk) rfl ?_; rintro _ rfl; conv => whnf)
  rw [hqk]
  refine Fork.intro (fun q => ?_) (fun q => ?_)
  · have q := of_decide_eq_true q
    subst q
    conv => whnf
    try rfl
  · have q := of_decide_eq_false q
    conv => whnf
    rw [e0]
    refine ⟨k + 1, [], [], ?_, ⟨by omega, by omega⟩, by show 11 - (k + 1) < 11 - k; omega⟩
    repeat' (first | exact trivial | exact .inl (DLe.refl _) | exact .inl (DLe.nil _ _) | (refine .inr ⟨rfl, _, ?_, rfl⟩; rfl) | exact rfl | exact .inl rfl | exact .inr ⟨rfl, rfl, rfl, rfl⟩ | exact Nat.zero_le _ | constructor)
end Go.Proofs.Ytfghccppoilfhaa.V
