/-
  Which line an order is, which order a line is: the program's reading and the document's come to the same. No condition.
  Which orders lines are, which farm they make. No condition.
-/
import Derived.Test.YtooaeccmkgockaaGreatDoorJaK
import Derived.Test.YtooaeccmkgockaaGreatDoorK3
namespace Go.Proofs.YtooaeccmkgockaaGreatDoor.V

abbrev wVip : List Nat := [118, 105, 112]
abbrev wBackend : List Nat := [98, 97, 99, 107, 101, 110, 100]
abbrev wRemove : List Nat := [114, 101, 109, 111, 118, 101]
abbrev wDrain : List Nat := [100, 114, 97, 105, 110]
abbrev wWeight : List Nat := [119, 101, 105, 103, 104, 116]
abbrev wMode : List Nat := [109, 111, 100, 101]
abbrev wStats : List Nat := [115, 116, 97, 116, 115]
abbrev wDirect : List Nat := [100, 105, 114, 101, 99, 116]
abbrev wProxy : List Nat := [112, 114, 111, 120, 121]
abbrev wTcp : List Nat := [116, 99, 112]
abbrev wUdp : List Nat := [117, 100, 112]
def opW : Int → List Nat
  | .ofNat 1 => wVip
  | .ofNat 2 => wBackend
  | .ofNat 3 => wRemove
  | .ofNat 4 => wDrain
  | .ofNat 5 => wWeight
  | .ofNat 6 => wMode
  | .ofNat 7 => wStats
  | _ => []
def modeW : Int → List Nat
  | .ofNat 1 => wDirect
  | .ofNat 2 => wProxy
  | _ => []
def protoW : Int → List Nat
  | .ofNat 6 => wTcp
  | .ofNat 17 => wUdp
  | _ => []

def findW (W : Int → List Nat) (s : List Nat) : Nat → Nat → Int
  | 0, _ => 0
  | k + 1, n => match !decide (s = []) && decide (W n = s) with
    | true => n
    | false => findW W s k (n + 1)
theorem findW_le (W : Int → List Nat) (s : List Nat) : ∀ (k n : Nat), findW W s k n = 0 ∨ ((n : Int) ≤ findW W s k n ∧ findW W s k n < n + k)
  | 0, n => .inl rfl
  | k + 1, n => by
    rw [findW]
    split
    · exact .inr (by omega)
    · have := findW_le W s k (n + 1)
      omega

structure MayO (o : Ord) : Prop where
  op : 1 ≤ o.op ∧ o.op ≤ 7
  id : 0 ≤ o.id ∧ o.id ≤ 65535
  vip : 0 ≤ o.vip ∧ o.vip ≤ 255
  num : 0 ≤ o.num ∧ o.num ≤ 255
  count : o.count = 0
  port : o.op = 1 ∨ (o.port = 0 ∧ o.proto = 0)
  vips : o.op = 2 ∨ o.vip = 0
  addr : o.op ≤ 2 ∨ o.addr = 0
  nums : ¬ (o.op = 3 ∨ o.op = 4 ∨ o.op = 7) ∨ o.num = 0
  ids : o.op ≠ 7 ∨ o.id = 0
  mode : ¬ (o.op = 1 ∨ o.op = 6) ∨ o.num = 1 ∨ o.num = 2
  proto : o.op ≠ 1 ∨ o.proto = 6 ∨ o.proto = 17
theorem mayO_iff (o : Ord) : MayO o ↔ (1 ≤ o.op ∧ o.op ≤ 7) ∧ (0 ≤ o.id ∧ o.id ≤ 65535) ∧ (0 ≤ o.vip ∧ o.vip ≤ 255) ∧ (0 ≤ o.num ∧ o.num ≤ 255) ∧ o.count = 0 ∧ (o.op = 1 ∨ (o.port = 0 ∧ o.proto = 0)) ∧ (o.op = 2 ∨ o.vip = 0) ∧ (o.op ≤ 2 ∨ o.addr = 0) ∧ (¬ (o.op = 3 ∨ o.op = 4 ∨ o.op = 7) ∨ o.num = 0) ∧ (o.op ≠ 7 ∨ o.id = 0) ∧ (¬ (o.op = 1 ∨ o.op = 6) ∨ o.num = 1 ∨ o.num = 2) ∧ (o.op ≠ 1 ∨ o.proto = 6 ∨ o.proto = 17) :=
  ⟨fun ⟨a, b, c, d, e, f, g, h, i, j, k, l⟩ => ⟨a, b, c, d, e, f, g, h, i, j, k, l⟩, fun ⟨a, b, c, d, e, f, g, h, i, j, k, l⟩ => ⟨a, b, c, d, e, f, g, h, i, j, k, l⟩⟩
instance (o : Ord) : Decidable (MayO o) := decidable_of_iff _ (mayO_iff o).symm
def mayOB (o : Ord) : Bool := decide (MayO o)

def dgI (n : Int) : List Nat := dgs n.toNat
def txI (n : Int) : List Nat := txt n.toNat
def lineN (o : Ord) : List Nat := match o.op with
  | .ofNat 1 => wVip ++ 32 :: (dgI o.id ++ 32 :: ((txI o.addr ++ 58 :: dgI o.port) ++ 32 :: (protoW o.proto ++ 32 :: modeW o.num)))
  | .ofNat 2 => wBackend ++ 32 :: (dgI o.id ++ 32 :: (dgI o.vip ++ 32 :: (txI o.addr ++ 32 :: (wWeight ++ 32 :: dgI o.num))))
  | .ofNat 3 => wRemove ++ 32 :: dgI o.id
  | .ofNat 4 => wDrain ++ 32 :: dgI o.id
  | .ofNat 5 => wWeight ++ 32 :: (dgI o.id ++ 32 :: dgI o.num)
  | .ofNat 6 => wMode ++ 32 :: (dgI o.id ++ 32 :: modeW o.num)
  | _ => wStats
def lineO (o : Ord) : List Nat := match mayOB o with
  | true => lineN o
  | false => []
abbrev zeroO : Ord := ⟨0, 0, 0, 0, 0, 0, 0, 0⟩

/-! ### The program's reading -/
def wd (s : List Nat) (i : Nat) : List Nat := (spl 32 s).getD i []
def adr (l : List Nat) : Int := ((pParse l).getD 0 : Nat)
def prt (l : List Nat) : Int := (max (numP l) 0) % 65536
def pOrdAt (s : List Nat) : Int → Ord
  | .ofNat 1 => ⟨0, 1, numP (wd s 1), 0, adr (cutL 58 (wd s 2)), prt (cutR 58 (wd s 2)), findW protoW (wd s 3) 17 1, findW modeW (wd s 4) 2 1⟩
  | .ofNat 2 => ⟨0, 2, numP (wd s 1), numP (wd s 2), adr (wd s 3), 0, 0, numP (wd s 5)⟩
  | .ofNat 3 => ⟨0, 3, numP (wd s 1), 0, 0, 0, 0, 0⟩
  | .ofNat 4 => ⟨0, 4, numP (wd s 1), 0, 0, 0, 0, 0⟩
  | .ofNat 5 => ⟨0, 5, numP (wd s 1), 0, 0, 0, 0, numP (wd s 2)⟩
  | .ofNat 6 => ⟨0, 6, numP (wd s 1), 0, 0, 0, 0, findW modeW (wd s 2) 2 1⟩
  | .ofNat 7 => ⟨0, 7, 0, 0, 0, 0, 0, 0⟩
  | _ => ⟨0, 0, numP (wd s 1), 0, 0, 0, 0, 0⟩
def pOrd (s : List Nat) : Ord := pOrdAt s (findW opW (wd s 0) 7 1)

/-! ### The document's reading -/
def named (s : List Nat) : Int := match decide (s = wDirect) with
  | true => 1
  | false => match decide (s = wProxy) with
    | true => 2
    | false => 0
/-! ### There and back -/
theorem adr_txt {a : Int} (h : 0 ≤ a ∧ a ≤ 4294967295) : adr (txI a) = a := by
  unfold adr txI
  rw [pParse_txt (by omega)]
  show ((a.toNat : Nat) : Int) = a
  omega
theorem numP_dgI {n : Int} (h : 0 ≤ n ∧ n ≤ 65535) : numP (dgI n) = n := by
  unfold dgI; rw [numP_dgs _ (by omega)]; omega
theorem prt_dgI {n : Int} (h : 0 ≤ n ∧ n ≤ 65535) : prt (dgI n) = n := by
  unfold prt; rw [numP_dgI h]; omega
theorem dgI_is (n : Int) : ∀ c, c ∈ dgI n → 48 ≤ c ∧ c ≤ 57 := dgs_is _
theorem dg_ne (n : Int) {k : Nat} (hk : k < 48 ∨ 57 < k) : ∀ c, c ∈ dgI n → c ≠ k := fun c hc => by have := dgI_is n c hc; omega
theorem tx_ne (n : Int) {k : Nat} (h : k ≠ 46) (hk : k < 48 ∨ 57 < k) : ∀ c, c ∈ txI n → c ≠ k := fun c hc => by
  have := txt_is n.toNat c hc
  omega
theorem sp_dg (n : Int) : ∀ c, c ∈ dgI n → eqC 32 c = false := eqC_ne (dg_ne n (.inl (by decide)))
theorem sp_tx (n : Int) : ∀ c, c ∈ txI n → eqC 32 c = false := eqC_ne (tx_ne n (by decide) (.inl (by decide)))

theorem op_cases {n : Int} (h : 1 ≤ n ∧ n ≤ 7) : n = 1 ∨ n = 2 ∨ n = 3 ∨ n = 4 ∨ n = 5 ∨ n = 6 ∨ n = 7 := by omega

theorem pOrd_line {o : Ord} (h : MayO o) (ok : o.ok) : pOrd (lineN o) = o := by
  obtain ⟨count, op, id, vip, addr, port, proto, num⟩ := o
  obtain ⟨h1, h2, h3, h4, h5, h6, h7, h8, h9, h10, h11, h12⟩ := h
  have ka := ok.addr; have kp := ok.port
  dsimp only at *
  subst h5
  rcases op_cases h1 with rfl | rfl | rfl | rfl | rfl | rfl | rfl
  · obtain rfl : vip = 0 := by omega
    have hn : num = 1 ∨ num = 2 := by omega
    have hp : proto = 6 ∨ proto = 17 := by omega
    have hsp : spl 32 (lineN ⟨0, 1, id, 0, addr, port, proto, num⟩) = [wVip, dgI id, txI addr ++ 58 :: dgI port, protoW proto, modeW num] := by
      show spl 32 (wVip ++ 32 :: (dgI id ++ 32 :: ((txI addr ++ 58 :: dgI port) ++ 32 :: (protoW proto ++ 32 :: modeW num)))) = _
      rw [spl, splB_app (by decide) rfl, splB_app (sp_dg id) rfl, splB_app (x := txI addr ++ 58 :: dgI port) (fun c hc => ?_) rfl, splB_app (x := protoW proto) (by rcases hp with rfl | rfl <;> decide) rfl, splB_one (by rcases hn with rfl | rfl <;> decide)]
      rcases List.mem_append.1 hc with hc | hc
      · exact sp_tx addr c hc
      · rcases List.mem_cons.1 hc with rfl | hc
        · rfl
        · exact sp_dg port c hc
    obtain ⟨hc1, hc2⟩ := cutL_app (c := 58) (tx_ne addr (by decide) (.inr (by decide))) (dgI port)
    unfold pOrd wd
    rw [hsp]
    show pOrdAt _ 1 = _
    unfold pOrdAt wd
    rw [hsp]
    show Ord.mk 0 1 (numP (dgI id)) 0 (adr (cutL 58 (txI addr ++ 58 :: dgI port))) (prt (cutR 58 (txI addr ++ 58 :: dgI port))) (findW protoW (protoW proto) 17 1) (findW modeW (modeW num) 2 1) = _
    rw [hc1, hc2, numP_dgI h2, adr_txt ka, prt_dgI kp]
    rcases hn with rfl | rfl <;> rcases hp with rfl | rfl <;> rfl
  · obtain ⟨rfl, rfl⟩ : port = 0 ∧ proto = 0 := by omega
    have hsp : spl 32 (lineN ⟨0, 2, id, vip, addr, 0, 0, num⟩) = [wBackend, dgI id, dgI vip, txI addr, wWeight, dgI num] := by
      show spl 32 (wBackend ++ 32 :: (dgI id ++ 32 :: (dgI vip ++ 32 :: (txI addr ++ 32 :: (wWeight ++ 32 :: dgI num))))) = _
      rw [spl, splB_app (by decide) rfl, splB_app (sp_dg id) rfl, splB_app (sp_dg vip) rfl, splB_app (sp_tx addr) rfl, splB_app (by decide) rfl, splB_one (sp_dg num)]
    unfold pOrd wd
    rw [hsp]
    show pOrdAt _ 2 = _
    unfold pOrdAt wd
    rw [hsp]
    show Ord.mk 0 2 (numP (dgI id)) (numP (dgI vip)) (adr (txI addr)) 0 0 (numP (dgI num)) = _
    rw [numP_dgI h2, numP_dgI (by omega), numP_dgI (by omega), adr_txt ka]
  · obtain ⟨rfl, rfl⟩ : port = 0 ∧ proto = 0 := by omega
    obtain ⟨rfl, rfl, rfl⟩ : vip = 0 ∧ addr = 0 ∧ num = 0 := by omega
    have hsp : spl 32 (lineN ⟨0, 3, id, 0, 0, 0, 0, 0⟩) = [wRemove, dgI id] := by
      show spl 32 (wRemove ++ 32 :: dgI id) = _
      rw [spl, splB_app (by decide) rfl, splB_one (sp_dg id)]
    unfold pOrd wd
    rw [hsp]
    show pOrdAt _ 3 = _
    unfold pOrdAt wd
    rw [hsp]
    show Ord.mk 0 3 (numP (dgI id)) 0 0 0 0 0 = _
    rw [numP_dgI h2]
  · obtain ⟨rfl, rfl⟩ : port = 0 ∧ proto = 0 := by omega
    obtain ⟨rfl, rfl, rfl⟩ : vip = 0 ∧ addr = 0 ∧ num = 0 := by omega
    have hsp : spl 32 (lineN ⟨0, 4, id, 0, 0, 0, 0, 0⟩) = [wDrain, dgI id] := by
      show spl 32 (wDrain ++ 32 :: dgI id) = _
      rw [spl, splB_app (by decide) rfl, splB_one (sp_dg id)]
    unfold pOrd wd
    rw [hsp]
    show pOrdAt _ 4 = _
    unfold pOrdAt wd
    rw [hsp]
    show Ord.mk 0 4 (numP (dgI id)) 0 0 0 0 0 = _
    rw [numP_dgI h2]
  · obtain ⟨rfl, rfl⟩ : port = 0 ∧ proto = 0 := by omega
    obtain ⟨rfl, rfl⟩ : vip = 0 ∧ addr = 0 := by omega
    have hsp : spl 32 (lineN ⟨0, 5, id, 0, 0, 0, 0, num⟩) = [wWeight, dgI id, dgI num] := by
      show spl 32 (wWeight ++ 32 :: (dgI id ++ 32 :: dgI num)) = _
      rw [spl, splB_app (by decide) rfl, splB_app (sp_dg id) rfl, splB_one (sp_dg num)]
    unfold pOrd wd
    rw [hsp]
    show pOrdAt _ 5 = _
    unfold pOrdAt wd
    rw [hsp]
    show Ord.mk 0 5 (numP (dgI id)) 0 0 0 0 (numP (dgI num)) = _
    rw [numP_dgI h2, numP_dgI (by omega)]
  · obtain ⟨rfl, rfl⟩ : port = 0 ∧ proto = 0 := by omega
    obtain ⟨rfl, rfl⟩ : vip = 0 ∧ addr = 0 := by omega
    have hn : num = 1 ∨ num = 2 := by omega
    have hsp : spl 32 (lineN ⟨0, 6, id, 0, 0, 0, 0, num⟩) = [wMode, dgI id, modeW num] := by
      show spl 32 (wMode ++ 32 :: (dgI id ++ 32 :: modeW num)) = _
      rw [spl, splB_app (by decide) rfl, splB_app (sp_dg id) rfl, splB_one (by rcases hn with rfl | rfl <;> decide)]
    unfold pOrd wd
    rw [hsp]
    show pOrdAt _ 6 = _
    unfold pOrdAt wd
    rw [hsp]
    show Ord.mk 0 6 (numP (dgI id)) 0 0 0 0 (findW modeW (modeW num) 2 1) = _
    rw [numP_dgI h2]
    rcases hn with rfl | rfl <;> rfl
  · obtain ⟨rfl, rfl⟩ : port = 0 ∧ proto = 0 := by omega
    obtain ⟨rfl, rfl, rfl, rfl⟩ : vip = 0 ∧ addr = 0 ∧ num = 0 ∧ id = 0 := by omega
    rfl

/-! ### Both readings come to the same -/
theorem adr_ok (l : List Nat) : 0 ≤ adr l ∧ adr l ≤ 4294967295 := by
  unfold adr
  cases hq : pParse l with
  | none => simp
  | some v =>
    have := (pParse_some hq).2
    show (0 : Int) ≤ ((v : Nat) : Int) ∧ ((v : Nat) : Int) ≤ _
    omega
theorem prt_ok (l : List Nat) : 0 ≤ prt l ∧ prt l ≤ 65535 := by unfold prt; omega
theorem find_ok (W : Int → List Nat) (s : List Nat) {k : Nat} (hk : k ≤ 100) : 0 ≤ findW W s k 1 ∧ findW W s k 1 ≤ 100 := by have := findW_le W s k 1; omega
theorem pOrdAt_ok (s : List Nat) (n : Int) : (pOrdAt s n).ok := by
  have n1 := numP_le (wd s 1); have n2 := numP_le (wd s 2); have n5 := numP_le (wd s 5)
  have a1 := adr_ok (cutL 58 (wd s 2)); have a2 := adr_ok (wd s 3)
  have p1 := prt_ok (cutR 58 (wd s 2))
  have f1 := find_ok protoW (wd s 3) (k := 17) (by decide); have f2 := find_ok modeW (wd s 4) (k := 2) (by decide); have f3 := find_ok modeW (wd s 2) (k := 2) (by decide)
  unfold pOrdAt
  split <;> (constructor <;> dsimp only <;> omega)
theorem pOrd_ok (s : List Nat) : (pOrd s).ok := pOrdAt_ok s _
def pRead (s : List Nat) : Ord × Int := match mayOB (pOrd s) && decide (lineO (pOrd s) = s) with
  | true => (pOrd s, 0)
  | false => (zeroO, 3)
theorem lineO_may {o : Ord} (h : MayO o) : lineO o = lineN o := by unfold lineO mayOB; rw [decide_eq_true h]
theorem pRead_line {o : Ord} (h : MayO o) (ok : o.ok) : pRead (lineO o) = (o, 0) := by
  unfold pRead
  rw [lineO_may h, pOrd_line h ok, lineO_may h, decide_eq_true rfl, mayOB, decide_eq_true h]; rfl
theorem pRead_nil : pRead [] = (zeroO, 3) := by
  unfold pRead
  rw [show mayOB (pOrd []) = false from decide_eq_false fun h => by have := h.op.1; revert this; decide]; rfl
theorem pRead_ok (s : List Nat) : (pRead s).1.ok := by
  unfold pRead
  split
  · exact pOrd_ok s
  · constructor <;> dsimp only <;> omega
end Go.Proofs.YtooaeccmkgockaaGreatDoor.V
namespace Go.Proofs.YtooaeccmkgockaaGreatDoor.V

def pLines : List (List Nat) → Nat → List Ord → List Ord × Int × Int
  | [], _, out => (out, 0, 0)
  | q :: r, i, out => match decide (q = []) with
    | true => pLines r (i + 1) out
    | false => match decide ((pRead q).2 = 0) with
      | true => pLines r (i + 1) (out ++ [{ (pRead q).1 with count := (out.length + 1 : Nat) }])
      | false => ([], (i + 1 : Nat), (pRead q).2)
def parseT (s : List Nat) : List Ord × Int × Int := match decide (4000 < s.length) with
  | true => ([], 0, 14)
  | false => pLines (spl 10 s) 0 []
theorem pRead_err (s : List Nat) : (pRead s).2 = 0 ∨ (pRead s).2 = 3 := by
  unfold pRead; split
  · exact .inl rfl
  · exact .inr rfl
theorem pLines_ok : ∀ (l : List (List Nat)) (i : Nat) (out : List Ord), out.length ≤ i → i + l.length ≤ 100000 → (∀ o, o ∈ out → o.ok) → (∀ o, o ∈ (pLines l i out).1 → o.ok) ∧ (pLines l i out).1.length ≤ i + l.length
  | [], i, out, h1, h2, h => ⟨h, by simpa [pLines] using h1⟩
  | q :: r, i, out, h1, h2, h => by
    rw [List.length_cons] at h2
    rw [pLines]
    split
    · have := pLines_ok r (i + 1) out (by omega) (by omega) h
      rw [List.length_cons]
      exact ⟨this.1, by omega⟩
    · split
      · have hk := pRead_ok q
        have := pLines_ok r (i + 1) (out ++ [{ (pRead q).1 with count := (out.length + 1 : Nat) }]) (by simp; omega) (by omega) fun o ho => by
          rcases List.mem_append.1 ho with ho | ho
          · exact h o ho
          · obtain rfl := List.mem_singleton.1 ho
            exact ⟨(by show (0 : Int) ≤ ((out.length + 1 : Nat) : Int) ∧ ((out.length + 1 : Nat) : Int) ≤ 18446744073709551615; omega), hk.id, hk.vip, hk.addr, hk.port, hk.proto, hk.num⟩
        rw [List.length_cons]
        exact ⟨this.1, by omega⟩
      · exact ⟨fun o ho => (by cases ho), by simp⟩
theorem parseT_ok (s : List Nat) (hs : s.length ≤ 90000) : (∀ o, o ∈ (parseT s).1 → o.ok) ∧ (parseT s).1.length ≤ s.length + 1 := by
  unfold parseT
  split
  · exact ⟨fun o ho => (by cases ho), by simp⟩
  · have hl : (spl 10 s).length ≤ s.length + 1 := splB_len (eqC 10) s
    have h := pLines_ok (spl 10 s) 0 [] (Nat.le_refl _) (by omega) fun o ho => (by cases ho)
    exact ⟨h.1, by have := h.2; omega⟩

def loadL : List Ord → List Vip → List Back → Int → (List Vip × List Back) × Int
  | [], V, B, _ => ((V, B), 0)
  | o :: r, V, B, last => match decide ((doF V B last o).2 = 0) with
    | true => loadL r (doF V B last o).1.1.1 (doF V B last o).1.1.2 (doF V B last o).1.2
    | false => (([], []), (doF V B last o).2)
def loadT (s : List Nat) : (List Vip × List Back) × Int := match decide ((parseT s).2.2 = 0) with
  | true => loadL (parseT s).1 [] [] 0
  | false => (([], []), (parseT s).2.2)
end Go.Proofs.YtooaeccmkgockaaGreatDoor.V
