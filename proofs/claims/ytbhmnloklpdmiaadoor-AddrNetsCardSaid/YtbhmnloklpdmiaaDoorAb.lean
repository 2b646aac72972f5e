/-
  Texts of Ethernet addresses, as lists of numbers: the program's reading and the document's answer alike. No condition.
-/
import Derived.Test.YtbhmnloklpdmiaaDoorAa
namespace Go.Proofs.YtbhmnloklpdmiaaDoor.V

def hx (k : Nat) : Nat := if k < 10 then 48 + k else 87 + k
def unhex (c : Nat) : Option Nat := if 48 ≤ c ∧ c ≤ 57 then some (c - 48) else if 97 ≤ c ∧ c ≤ 102 then some (c - 87) else none
theorem unhex_hx {k : Nat} (h : k < 16) : unhex (hx k) = some k := by
  unfold hx
  split
  · unfold unhex; rw [if_pos (by omega)]; congr 1; omega
  · unfold unhex; rw [if_neg (by omega), if_pos (by omega)]; congr 1; omega
theorem unhex_some {c k : Nat} (h : unhex c = some k) : k < 16 ∧ c = hx k := by
  unfold unhex at h
  split at h
  · injection h with h
    refine ⟨by omega, ?_⟩
    unfold hx; rw [if_pos (by omega)]; omega
  · split at h
    · injection h with h
      refine ⟨by omega, ?_⟩
      unfold hx; rw [if_neg (by omega)]; omega
    · cases h
theorem hx_lt {k : Nat} (h : k < 16) : hx k < 128 ∧ hx k ≠ 58 := by unfold hx; split <;> omega
def mtx (x : Nat) : List Nat := [hx (x / 16), hx (x % 16)]
def joinC : List (List Nat) → List Nat
  | [] => []
  | [x] => x
  | x :: y :: r => x ++ 58 :: joinC (y :: r)
def mtxt (m : List Nat) : List Nat := joinC (m.map mtx)
/-- Six bytes. -/
structure MacOk (m : List Nat) : Prop where
  len : m.length = 6
  byt : Byt m
theorem MacOk.six {m : List Nat} (h : MacOk m) : ∃ a b c d e f, m = [a, b, c, d, e, f] ∧ a < 256 ∧ b < 256 ∧ c < 256 ∧ d < 256 ∧ e < 256 ∧ f < 256 := by
  obtain ⟨h1, h2⟩ := h
  match m, h1 with
  | [a, b, c, d, e, f], _ => exact ⟨a, b, c, d, e, f, rfl, h2 _ (by simp), h2 _ (by simp), h2 _ (by simp), h2 _ (by simp), h2 _ (by simp), h2 _ (by simp)⟩
theorem MacOk.mk6 {a b c d e f : Nat} (ha : a < 256) (hb : b < 256) (hc : c < 256) (hd : d < 256) (he : e < 256) (hf : f < 256) : MacOk [a, b, c, d, e, f] :=
  ⟨rfl, .cons ha (.cons hb (.cons hc (.cons hd (.cons he (.cons hf .nil)))))⟩
theorem mtx_byt {x : Nat} (h : x < 256) : Byt (mtx x) := .cons (by have := hx_lt (show x / 16 < 16 by omega); omega) (.cons (by have := hx_lt (show x % 16 < 16 by omega); omega) .nil)
theorem mtxt_byt {m : List Nat} (h : MacOk m) : Byt (mtxt m) := by
  obtain ⟨a, b, c, d, e, f, rfl, ha, hb, hc, hd, he, hf⟩ := h.six
  exact (mtx_byt ha).append (.cons (by decide) ((mtx_byt hb).append (.cons (by decide) ((mtx_byt hc).append (.cons (by decide) ((mtx_byt hd).append (.cons (by decide) ((mtx_byt he).append (.cons (by decide) (mtx_byt hf))))))))))

/-! ### The program's reading -/
def zero6 : List Nat := [0, 0, 0, 0, 0, 0]
def mstep (i : Nat) (m : List Nat) (c : Nat) : Option (List Nat) := match unhex c with
  | none => none
  | some k => match decide (i < 6) with
    | true => some (m.set i (m.getD i 0 * 16 % 256 + k))
    | false => none
def mpart (i : Nat) : List Nat → List Nat → Option (List Nat)
  | m, [] => some m
  | m, c :: l => match mstep i m c with
    | none => none
    | some m' => mpart i m' l
def mparts : Nat → List Nat → List (List Nat) → Option (List Nat)
  | _, m, [] => some m
  | i, m, p :: r => match mpart i m p with
    | none => none
    | some m' => mparts (i + 1) m' r
def splitC : List Nat → List (List Nat)
  | [] => [[]]
  | c :: l => match decide (c = 58), splitC l with
    | true, r => [] :: r
    | false, p :: r => (c :: p) :: r
    | false, [] => [[c]]
def pMac (l : List Nat) : Option (List Nat) := match mparts 0 zero6 (splitC l) with
  | none => none
  | some m => match decide (mtxt m = l) with
    | true => some m
    | false => none
theorem mstep_ok {i : Nat} {m m' : List Nat} {c : Nat} (h : MacOk m) (hs : mstep i m c = some m') : MacOk m' := by
  unfold mstep at hs
  split at hs
  · cases hs
  · rename_i k hk
    split at hs
    · injection hs with hs; subst hs
      refine ⟨by rw [List.length_set]; exact h.len, fun x hx => ?_⟩
      have := (unhex_some hk).1
      rcases List.mem_or_eq_of_mem_set hx with hx | rfl
      · exact h.byt x hx
      · generalize m.getD i 0 = y; omega
    · cases hs
theorem mpart_ok {i : Nat} : ∀ {l m m' : List Nat}, MacOk m → mpart i m l = some m' → MacOk m'
  | [], m, m', h, hs => by injection hs with hs; subst hs; exact h
  | c :: l, m, m', h, hs => by
    rw [mpart] at hs
    cases hq : mstep i m c with
    | none => rw [hq] at hs; cases hs
    | some m1 => rw [hq] at hs; exact mpart_ok (mstep_ok h hq) hs
theorem mparts_ok : ∀ {r : List (List Nat)} {i : Nat} {m m' : List Nat}, MacOk m → mparts i m r = some m' → MacOk m'
  | [], i, m, m', h, hs => by injection hs with hs; subst hs; exact h
  | p :: r, i, m, m', h, hs => by
    rw [mparts] at hs
    cases hq : mpart i m p with
    | none => rw [hq] at hs; cases hs
    | some m1 => rw [hq] at hs; exact mparts_ok (mpart_ok h hq) hs
theorem zero6_ok : MacOk zero6 := ⟨rfl, fun x hx => by simp [zero6] at hx; omega⟩
theorem pMac_some {l m : List Nat} (h : pMac l = some m) : mtxt m = l ∧ MacOk m := by
  unfold pMac at h
  cases hq : mparts 0 zero6 (splitC l) with
  | none => rw [hq] at h; cases h
  | some m1 =>
    rw [hq] at h
    simp only [] at h
    split at h
    · rename_i h1
      injection h with h; subst h
      exact ⟨of_decide_eq_true h1, mparts_ok zero6_ok hq⟩
    · cases h
theorem splitC_ne : ∀ l, splitC l ≠ []
  | [] => by simp [splitC]
  | c :: l => by
    rw [splitC]
    cases decide (c = 58) with
    | true => simp
    | false => cases splitC l <;> simp
theorem splitC_app {x : List Nat} (hx : ∀ c, c ∈ x → c ≠ 58) (r : List Nat) : splitC (x ++ 58 :: r) = x :: splitC r := by
  induction x with
  | nil => rfl
  | cons c x ih =>
    rw [List.cons_append, splitC, ih fun c hc => hx c (List.mem_cons_of_mem _ hc), decide_eq_false (hx c List.mem_cons_self)]
theorem splitC_one {x : List Nat} (hx : ∀ c, c ∈ x → c ≠ 58) : splitC x = [x] := by
  induction x with
  | nil => rfl
  | cons c x ih =>
    rw [splitC, ih fun c hc => hx c (List.mem_cons_of_mem _ hc), decide_eq_false (hx c List.mem_cons_self)]
theorem mtx_ne {x : Nat} (h : x < 256) : ∀ c, c ∈ mtx x → c ≠ 58 := fun c hc => by
  simp [mtx] at hc
  rcases hc with rfl | rfl
  · exact (hx_lt (by omega)).2
  · exact (hx_lt (by omega)).2
theorem mpart_mtx {i : Nat} (hi : i < 6) {m : List Nat} (hm : m.length = 6) (h0 : m.getD i 0 = 0) {x : Nat} (hx2 : x < 256) : mpart i m (mtx x) = some (m.set i x) := by
  have one : ∀ (m : List Nat) (k : Nat), k < 16 → mstep i m (hx k) = some (m.set i (m.getD i 0 * 16 % 256 + k)) := fun m k hk => by
    unfold mstep
    rw [unhex_hx hk, decide_eq_true hi]
  unfold mtx
  rw [mpart, one m _ (by omega)]
  simp only []
  rw [mpart, one _ _ (by omega)]
  simp only [mpart]
  rw [h0, List.set_set]
  congr 2
  have : (m.set i (0 * 16 % 256 + x / 16)).getD i 0 = x / 16 := by
    rw [List.getD_eq_getElem?_getD, List.getElem?_set_self (by omega)]
    simp
  rw [this]
  omega
theorem pMac_mtxt {m : List Nat} (h : MacOk m) : pMac (mtxt m) = some m := by
  obtain ⟨a, b, c, d, e, f, rfl, ha, hb, hc, hd, he, hf⟩ := h.six
  have hs : splitC (mtxt [a, b, c, d, e, f]) = [mtx a, mtx b, mtx c, mtx d, mtx e, mtx f] := by
    show splitC (mtx a ++ 58 :: (mtx b ++ 58 :: (mtx c ++ 58 :: (mtx d ++ 58 :: (mtx e ++ 58 :: mtx f))))) = _
    rw [splitC_app (mtx_ne ha), splitC_app (mtx_ne hb), splitC_app (mtx_ne hc), splitC_app (mtx_ne hd), splitC_app (mtx_ne he), splitC_one (mtx_ne hf)]
  unfold pMac
  rw [hs]
  have h1 : mparts 0 zero6 [mtx a, mtx b, mtx c, mtx d, mtx e, mtx f] = some [a, b, c, d, e, f] := by
    unfold zero6
    rw [mparts, mpart_mtx (by decide) rfl rfl ha]
    simp only []
    rw [mparts, mpart_mtx (by decide) rfl rfl hb]
    simp only []
    rw [mparts, mpart_mtx (by decide) rfl rfl hc]
    simp only []
    rw [mparts, mpart_mtx (by decide) rfl rfl hd]
    simp only []
    rw [mparts, mpart_mtx (by decide) rfl rfl he]
    simp only []
    rw [mparts, mpart_mtx (by decide) rfl rfl hf]
    rfl
  rw [h1]
  simp only [decide_true]

/-! ### The document's answer -/
def uh (c : Nat) : Nat := (unhex c).getD 0
def okAt (l : List Nat) (t : Nat) : Bool := match decide (t % 3 = 2) with
  | true => decide (l.getD t 0 = 58)
  | false => (unhex (l.getD t 0)).isSome
def mo (l : List Nat) (i j : Nat) : Nat := if i ≤ 3 * j then 0 else if i = 3 * j + 1 then uh (l.getD (3 * j) 0) else uh (l.getD (3 * j) 0) * 16 + uh (l.getD (3 * j + 1) 0)
def moL (l : List Nat) (i : Nat) : List Nat := [mo l i 0, mo l i 1, mo l i 2, mo l i 3, mo l i 4, mo l i 5]
def rMac (l : List Nat) : Option (List Nat) := match decide (l.length = 17) && (List.range 17).all (okAt l) with
  | true => some (moL l 17)
  | false => none
theorem rMac_mtxt {m : List Nat} (h : MacOk m) : rMac (mtxt m) = some m := by
  obtain ⟨a, b, c, d, e, f, rfl, ha, hb, hc, hd, he, hf⟩ := h.six
  have e1 : mtxt [a, b, c, d, e, f] = [hx (a / 16), hx (a % 16), 58, hx (b / 16), hx (b % 16), 58, hx (c / 16), hx (c % 16), 58, hx (d / 16), hx (d % 16), 58, hx (e / 16), hx (e % 16), 58, hx (f / 16), hx (f % 16)] := rfl
  rw [e1]
  have u : ∀ {k : Nat}, k < 16 → uh (hx k) = k := fun hk => by unfold uh; rw [unhex_hx hk]; rfl
  have o : ∀ {k : Nat}, k < 16 → (unhex (hx k)).isSome = true := fun hk => by rw [unhex_hx hk]; rfl
  unfold rMac
  have hall : (List.range 17).all (okAt [hx (a / 16), hx (a % 16), 58, hx (b / 16), hx (b % 16), 58, hx (c / 16), hx (c % 16), 58, hx (d / 16), hx (d % 16), 58, hx (e / 16), hx (e % 16), 58, hx (f / 16), hx (f % 16)]) = true := by
    rw [List.all_eq_true]
    intro t ht
    have ht := List.mem_range.1 ht
    have h17 : t = 0 ∨ t = 1 ∨ t = 2 ∨ t = 3 ∨ t = 4 ∨ t = 5 ∨ t = 6 ∨ t = 7 ∨ t = 8 ∨ t = 9 ∨ t = 10 ∨ t = 11 ∨ t = 12 ∨ t = 13 ∨ t = 14 ∨ t = 15 ∨ t = 16 := by omega
    rcases h17 with rfl | rfl | rfl | rfl | rfl | rfl | rfl | rfl | rfl | rfl | rfl | rfl | rfl | rfl | rfl | rfl | rfl
    all_goals first
      | rfl
      | exact o (by omega)
  rw [hall]
  simp only [Bool.and_true]
  show some (moL _ 17) = _
  congr 1
  show [uh (hx (a / 16)) * 16 + uh (hx (a % 16)), uh (hx (b / 16)) * 16 + uh (hx (b % 16)), uh (hx (c / 16)) * 16 + uh (hx (c % 16)), uh (hx (d / 16)) * 16 + uh (hx (d % 16)), uh (hx (e / 16)) * 16 + uh (hx (e % 16)), uh (hx (f / 16)) * 16 + uh (hx (f % 16))] = _
  rw [u (by omega), u (by omega), u (by omega), u (by omega), u (by omega), u (by omega), u (by omega), u (by omega), u (by omega), u (by omega), u (by omega), u (by omega)]
  rw [show a / 16 * 16 + a % 16 = a by omega, show b / 16 * 16 + b % 16 = b by omega, show c / 16 * 16 + c % 16 = c by omega, show d / 16 * 16 + d % 16 = d by omega, show e / 16 * 16 + e % 16 = e by omega, show f / 16 * 16 + f % 16 = f by omega]
theorem rMac_some {l m : List Nat} (h : rMac l = some m) : mtxt m = l ∧ MacOk m := by
  unfold rMac at h
  split at h
  · rename_i h1
    simp only [Bool.and_eq_true, decide_eq_true_eq] at h1
    obtain ⟨hl, hall⟩ := h1
    rw [List.all_eq_true] at hall
    injection h with h
    subst h
    match l, hl with
    | [c0, c1, c2, c3, c4, c5, c6, c7, c8, c9, c10, c11, c12, c13, c14, c15, c16], _ =>
      have hq : ∀ t, t < 17 → okAt [c0, c1, c2, c3, c4, c5, c6, c7, c8, c9, c10, c11, c12, c13, c14, c15, c16] t = true := fun t ht => hall t (List.mem_range.2 ht)
      have s : ∀ {c : Nat}, (unhex c).isSome = true → uh c < 16 ∧ c = hx (uh c) := fun {c} hc => by
        cases hq : unhex c with
        | none => rw [hq] at hc; cases hc
        | some k => have := unhex_some hq; unfold uh; rw [hq]; exact this
      obtain ⟨b0, e0⟩ := s (hq 0 (by decide)); obtain ⟨b1, e1⟩ := s (hq 1 (by decide))
      obtain ⟨b3, e3⟩ := s (hq 3 (by decide)); obtain ⟨b4, e4⟩ := s (hq 4 (by decide))
      obtain ⟨b6, e6⟩ := s (hq 6 (by decide)); obtain ⟨b7, e7⟩ := s (hq 7 (by decide))
      obtain ⟨b9, e9⟩ := s (hq 9 (by decide)); obtain ⟨b10, e10⟩ := s (hq 10 (by decide))
      obtain ⟨b12, e12⟩ := s (hq 12 (by decide)); obtain ⟨b13, e13⟩ := s (hq 13 (by decide))
      obtain ⟨b15, e15⟩ := s (hq 15 (by decide)); obtain ⟨b16, e16⟩ := s (hq 16 (by decide))
      have f2 : c2 = 58 := of_decide_eq_true (hq 2 (by decide))
      have f5 : c5 = 58 := of_decide_eq_true (hq 5 (by decide))
      have f8 : c8 = 58 := of_decide_eq_true (hq 8 (by decide))
      have f11 : c11 = 58 := of_decide_eq_true (hq 11 (by decide))
      have f14 : c14 = 58 := of_decide_eq_true (hq 14 (by decide))
      simp only [List.getD_cons_zero, List.getD_cons_succ] at b0 b1 b3 b4 b6 b7 b9 b10 b12 b13 b15 b16 e0 e1 e3 e4 e6 e7 e9 e10 e12 e13 e15 e16
      have em : moL [c0, c1, c2, c3, c4, c5, c6, c7, c8, c9, c10, c11, c12, c13, c14, c15, c16] 17 = [uh c0 * 16 + uh c1, uh c3 * 16 + uh c4, uh c6 * 16 + uh c7, uh c9 * 16 + uh c10, uh c12 * 16 + uh c13, uh c15 * 16 + uh c16] := rfl
      rw [em]
      refine ⟨?_, .mk6 (by omega) (by omega) (by omega) (by omega) (by omega) (by omega)⟩
      show [hx ((uh c0 * 16 + uh c1) / 16), hx ((uh c0 * 16 + uh c1) % 16), 58, hx ((uh c3 * 16 + uh c4) / 16), hx ((uh c3 * 16 + uh c4) % 16), 58, hx ((uh c6 * 16 + uh c7) / 16), hx ((uh c6 * 16 + uh c7) % 16), 58, hx ((uh c9 * 16 + uh c10) / 16), hx ((uh c9 * 16 + uh c10) % 16), 58,
        hx ((uh c12 * 16 + uh c13) / 16), hx ((uh c12 * 16 + uh c13) % 16), 58, hx ((uh c15 * 16 + uh c16) / 16), hx ((uh c15 * 16 + uh c16) % 16)] = _
      have d : ∀ {x y : Nat}, y < 16 → (x * 16 + y) / 16 = x ∧ (x * 16 + y) % 16 = y := fun h => by omega
      rw [(d b1).1, (d b1).2, (d b4).1, (d b4).2, (d b7).1, (d b7).2, (d b10).1, (d b10).2, (d b13).1, (d b13).2, (d b16).1, (d b16).2]
      rw [← e0, ← e1, ← e3, ← e4, ← e6, ← e7, ← e9, ← e10, ← e12, ← e13, ← e15, ← e16, f2, f5, f8, f11, f14]
  · cases h
theorem mac_eq (l : List Nat) : pMac l = rMac l := by
  cases h : rMac l with
  | some v =>
    obtain ⟨h1, h2⟩ := rMac_some h
    rw [← h1, pMac_mtxt h2]
  | none =>
    cases h2 : pMac l with
    | none => rfl
    | some v =>
      obtain ⟨h3, h4⟩ := pMac_some h2
      rw [← h3, rMac_mtxt h4] at h
      cases h
theorem mtxt_inj {a b : List Nat} (ha : MacOk a) (hb : MacOk b) : mtxt a = mtxt b ↔ a = b := by
  constructor
  · intro h
    have h1 := pMac_mtxt ha
    rw [h, pMac_mtxt hb] at h1
    injection h1 with h1; exact h1.symm
  · rintro rfl; rfl
end Go.Proofs.YtbhmnloklpdmiaaDoor.V
