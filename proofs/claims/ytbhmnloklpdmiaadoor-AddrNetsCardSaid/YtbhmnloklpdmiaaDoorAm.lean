/-
  The laws of addresses, by value: texts, Ethernet addresses, back again. Conditions: an address is a u32; an Ethernet address is six bytes.
-/
import Derived.Test.YtbhmnloklpdmiaaDoorAk
import Derived.Test.YtbhmnloklpdmiaaDoorAl
namespace Go.Proofs.YtbhmnloklpdmiaaDoor.V
open Go.RowKit
attribute [local irreducible] Fn FnN OpVC

theorem macRes_eq (r : Option (List Nat)) : macRes' r = macRes r := by cases r <;> rfl
theorem beq_self (l : List UInt8) : (l == l) = true := by simp
theorem eqMacOk : eqOk Tryd.prog 33 [1, 1, 1, 1, 1, 1] = true := by kernel_rfl
def lit1 : List Nat := [49, 48, 46, 48, 46, 48, 46, 50, 53, 53]
def lit2 : List Nat := [48, 50, 58, 48, 48, 58, 48, 48, 58, 48, 48, 58, 48, 97, 58, 102, 102]
theorem byt_of {l : List Nat} (h : l.all (fun x => decide (x < 256)) = true) : Byt l := fun x hx => of_decide_eq_true (List.all_eq_true.1 h x hx)

theorem lives_fn : Fn Tryd.prog 12 [] fun d => d = boolD true := by
  refine fnOf [] Tryd.func12 rfl (by kernel_rfl) (Nat.le_of_ble_eq_true rfl) ?_
  have h1 := parse_fn join_c lit1 (byt_of rfl)
  have h2 := parsemac_fn lit2 (byt_of rfl) (by decide)
  have h3 := text_fn join_c 1 (by decide)
  rw [show pParse lit1 = some 167772415 by decide] at h1
  rw [show pMac lit2 = some [2, 0, 0, 0, 10, 255] by decide] at h2
  conv => whnf
  refine CallVC.pure h1 rfl ?_
  rintro _ rfl
  conv => whnf
  refine CallVC.pure h2 rfl ?_
  rintro _ rfl
  conv => whnf
  refine ⟨by decide, ?_⟩
  conv => whnf
  refine CallVC.pure h3 rfl ?_
  rintro _ rfl
  conv => whnf
  have h9 : ((strB (txt 1)).toList == (strB [48, 46, 48, 46, 48, 46, 49]).toList) = true := by
    rw [strB_beq (txt_byt 1) (byt_of rfl)]
    decide
  exact congrArg (fun b => D.v (.bool b)) h9

set_option maxHeartbeats 1000000 in
theorem texts_fn (a : Nat) (ha : a < 4294967296) (s : List Nat) (hs : Byt s) : Fn Tryd.prog 3 [u32D a, strD s] fun d => d = boolD true := by
  refine fnOf [] Tryd.func3 rfl (by kernel_rfl) (Nat.le_of_ble_eq_true rfl) ?_
  have h0 := short_fn s
  have ht := hs.take 60
  have hl : (s.take 60).length ≤ 1000 := by rw [List.length_take]; omega
  generalize s.take 60 = t at *
  have h1 := parse_fn join_c t ht
  have h2 := rparse_fn t ht hl
  rw [parse_eq] at h1
  have h3 := text_fn join_c a ha
  have h4 := rtext_fn a ha
  generalize rparse 3 t 0 = r at *
  generalize txt a = x at *
  conv => whnf
  refine CallVC.pure h0 rfl ?_
  rintro _ rfl
  conv => whnf
  refine CallVC.pure h1 rfl ?_
  rintro _ rfl
  cases r with
  | none =>
    conv => whnf
    refine CallVC.pure h2 rfl ?_
    rintro _ rfl
    conv => whnf
    refine CallVC.pure h3 rfl ?_
    rintro _ rfl
    conv => whnf
    refine CallVC.pure h4 rfl ?_
    rintro _ rfl
    conv => whnf
    rw [beq_self]
    conv => whnf
    refine CallVC.pure lives_fn rfl ?_
    rintro _ rfl
    conv => whnf
  | some v =>
    conv => whnf
    refine CallVC.pure h2 rfl ?_
    rintro _ rfl
    conv => whnf
    refine CallVC.pure h3 rfl ?_
    rintro _ rfl
    conv => whnf
    refine CallVC.pure h4 rfl ?_
    rintro _ rfl
    conv => whnf
    rw [beq_self]
    conv => whnf
    rw [decide_eq_true (show ((v : Nat) : Int) = v from rfl)]
    conv => whnf
    refine CallVC.pure lives_fn rfl ?_
    rintro _ rfl
    conv => whnf

theorem eqMac (m : List Nat) : eqD (macD m) (macD m) = true := by
  unfold macD
  induction m with
  | nil => rfl
  | cons x m ih =>
    rw [List.map_cons, eqD, ih]
    simp

set_option maxHeartbeats 1000000 in
theorem macs_fn (m : List Nat) (hm : MacOk m) (s : List Nat) (hs : Byt s) : Fn Tryd.prog 4 [.agg (macD m), strD s] fun d => d = boolD true := by
  refine fnOf [(4, [0, 2, 1, 3, 4, 5, 6, 7, 8, 9, 10, 11, 12, 13, 14, 15, 16, 17, 18])] Tryd.func4 rfl (by kernel_rfl) (Nat.le_of_ble_eq_true rfl) ?_
  have h0 := short_fn s
  have ht := hs.take 60
  have hl : (s.take 60).length ≤ 60 := by rw [List.length_take]; omega
  generalize s.take 60 = t at *
  have h1 := parsemac_fn t ht (by omega)
  have h2 := rparsemac_fn t ht
  have hok : ∀ v, rMac t = some v → MacOk v := fun v h => (rMac_some h).2
  rw [macRes_eq, mac_eq] at h1
  have h3 := mactext_fn m hm
  have h4 := rmactext_fn m hm
  generalize rMac t = r at *
  generalize mtxt m = x at *
  obtain ⟨a, b, c, d, e, f, rfl, _⟩ := hm.six
  conv => whnf
  refine CallVC.pure h0 rfl ?_
  rintro _ rfl
  conv => whnf
  refine CallVC.pure h1 rfl ?_
  rintro _ rfl
  cases r with
  | none =>
    conv => whnf
    refine CallVC.pure h2 rfl ?_
    rintro _ rfl
    conv => whnf
    refine CallVC.pure h3 rfl ?_
    rintro _ rfl
    conv => whnf
    refine CallVC.pure h4 rfl ?_
    rintro _ rfl
    conv => whnf
    rw [beq_self]
    conv => whnf
    refine ⟨eqMacOk, rfl, ?_⟩
    conv => whnf
    refine CallVC.pure lives_fn rfl ?_
    rintro _ rfl
    conv => whnf
  | some v =>
    obtain ⟨a1, b1, c1, d1, e1, f1, rfl, _⟩ := (hok v rfl).six
    conv => whnf
    refine CallVC.pure h2 rfl ?_
    rintro _ rfl
    conv => whnf
    refine CallVC.pure h3 rfl ?_
    rintro _ rfl
    conv => whnf
    refine CallVC.pure h4 rfl ?_
    rintro _ rfl
    conv => whnf
    rw [beq_self]
    conv => whnf
    refine ⟨eqMacOk, rfl, ?_⟩
    rw [show eqD [u8D a1, u8D b1, u8D c1, u8D d1, u8D e1, u8D f1] [u8D a1, u8D b1, u8D c1, u8D d1, u8D e1, u8D f1] = true from eqMac [a1, b1, c1, d1, e1, f1]]
    conv => whnf
    refine CallVC.pure lives_fn rfl ?_
    rintro _ rfl
    conv => whnf

theorem eqD_mac : ∀ (m n : List Nat), m.length = n.length → eqD (macD m) (macD n) = decide (m = n)
  | [], [], _ => rfl
  | [], _ :: _, h => by simp at h
  | _ :: _, [], h => by simp at h
  | x :: m, y :: n, h => by
    have ih := eqD_mac m n (by simpa using h)
    unfold macD at ih ⊢
    rw [List.map_cons, List.map_cons, eqD, ih]
    by_cases hx : x = y
    · subst hx
      rw [decide_eq_true (show ((x : Nat) : Int) = x from rfl), Bool.true_and]
      exact decide_eq_decide.2 (by simp)
    · rw [decide_eq_false (by omega : ¬ ((x : Nat) : Int) = y), decide_eq_false (show ¬ (x :: m) = (y :: n) from fun e => by injection e with e1 e2; exact hx e1)]
      rfl

set_option maxHeartbeats 2000000 in
theorem back_fn (a b : Nat) (ha : a < 4294967296) (hb : b < 4294967296) (m n : List Nat) (hm : MacOk m) (hn : MacOk n) : Fn Tryd.prog 5 [u32D a, u32D b, .agg (macD m), .agg (macD n)] fun d => d = boolD true := by
  refine fnOf [(3, [0, 1, 2, 3, 4, 5, 6, 7, 8, 9, 10, 11, 12, 13, 14, 15, 16, 17, 19, 22, 23, 24, 18, 20, 21, 25, 26, 27, 28, 30, 33, 34, 35, 29, 31, 32, 36, 37, 38, 39, 40, 41])] Tryd.func5 rfl (by kernel_rfl) (Nat.le_of_ble_eq_true rfl) ?_
  have h1 := text_fn join_c a ha
  have h2 := parse_fn join_c (txt a) (txt_byt a)
  rw [pParse_txt ha] at h2
  have h3 := text_fn join_c b hb
  have h4 := mactext_fn m hm
  have h5 := parsemac_fn (mtxt m) (mtxt_byt hm) (by rw [mtxt_len hm]; decide)
  rw [pMac_mtxt hm] at h5
  have h6 := mactext_fn n hn
  have e1 : ((strB (txt a)).toList == (strB (txt b)).toList) = decide ((a : Int) = b) := by
    rw [strB_beq (txt_byt a) (txt_byt b)]
    exact decide_eq_decide.2 ((txt_inj ha hb).trans (by omega))
  have e2 : ((strB (mtxt m)).toList == (strB (mtxt n)).toList) = eqD (macD m) (macD n) := by
    rw [strB_beq (mtxt_byt hm) (mtxt_byt hn), eqD_mac m n (by rw [hm.len, hn.len])]
    exact decide_eq_decide.2 (mtxt_inj hm hn)
  have e3 := eqMac m
  generalize txt a = x at *
  generalize txt b = y at *
  generalize mtxt m = z at *
  generalize mtxt n = u at *
  obtain ⟨a0, b0, c0, d0, f0, g0, rfl, _⟩ := hm.six
  obtain ⟨a1, b1, c1, d1, f1, g1, rfl, _⟩ := hn.six
  conv => whnf
  refine CallVC.pure h1 rfl ?_
  rintro _ rfl
  conv => whnf
  refine CallVC.pure h2 rfl ?_
  rintro _ rfl
  conv => whnf
  refine CallVC.pure h4 rfl ?_
  rintro _ rfl
  conv => whnf
  refine CallVC.pure h5 rfl ?_
  rintro _ rfl
  conv => whnf
  rw [decide_eq_true (show ((a : Nat) : Int) = a from rfl)]
  conv => whnf
  refine ⟨eqMacOk, rfl, ?_⟩
  rw [show eqD [u8D a0, u8D b0, u8D c0, u8D d0, u8D f0, u8D g0] [u8D a0, u8D b0, u8D c0, u8D d0, u8D f0, u8D g0] = true from e3]
  conv => whnf
  refine CallVC.pure h1 rfl ?_
  rintro _ rfl
  conv => whnf
  refine CallVC.pure h3 rfl ?_
  rintro _ rfl
  conv => whnf
  rw [e1, show (decide ((a : Int) = b) == decide ((a : Int) = b)) = true from by simp]
  conv => whnf
  refine ⟨eqMacOk, rfl, ?_⟩
  rw [show eqD [u8D a0, u8D b0, u8D c0, u8D d0, u8D f0, u8D g0] [u8D a1, u8D b1, u8D c1, u8D d1, u8D f1, u8D g1] = eqD (macD [a0, b0, c0, d0, f0, g0]) (macD [a1, b1, c1, d1, f1, g1]) from rfl]
  generalize eqD (macD [a0, b0, c0, d0, f0, g0]) (macD [a1, b1, c1, d1, f1, g1]) = q at *
  conv => whnf
  refine CallVC.pure h4 rfl ?_
  rintro _ rfl
  conv => whnf
  refine CallVC.pure h6 rfl ?_
  rintro _ rfl
  conv => whnf
  rw [e2, show (q == q) = true from by simp]
  conv => whnf
  refine CallVC.pure lives_fn rfl ?_
  rintro _ rfl
  conv => whnf
end Go.Proofs.YtbhmnloklpdmiaaDoor.V
