/-
  The lines of a farm, by the program and by the document, by value. Conditions: short rows, numbers of their types. (printed by gen_js.py)
  The lines of a farm by the document. Conditions: short rows, numbers of their types.
  What is written, read again, makes the farm, but that nobody is up. No condition.
  The law PlanBack by value. Conditions: deeds and a farm of their types.
-/
import Derived.Test.YtooaeccmkgockaaGreatDoorK12
import Derived.Test.YtooaeccmkgockaaGreatDoorK9
import Derived.Test.YtooaeccmkgockaaGreatDoorFrK
import Derived.Test.YtooaeccmkgockaaGreatDoorK3
import Derived.Test.YtooaeccmkgockaaGreatDoorK11
namespace Go.Proofs.YtooaeccmkgockaaGreatDoor.V
open Go.RowKit
attribute [local irreducible] Fn FnN OpVC

/-! ### The lines of a farm -/
def vOrd (v : Vip) : Ord := ⟨0, 1, v.id, 0, v.addr, v.port, v.proto, v.mode⟩
def bOrd (b : Back) : Ord := ⟨0, 2, b.id, b.vip, b.addr, 0, 0, b.weight⟩
def dOrd (b : Back) : Ord := ⟨0, 4, b.id, 0, 0, 0, 0, 0⟩
def lnO (o : Ord) : List Nat := lineO o ++ [10]
def dTx (b : Back) : List Nat := match decide (b.life = 2) with
  | true => lnO (dOrd b)
  | false => []
def textW (V : List Vip) (B : List Back) : List Nat := V.flatMap (fun v => lnO (vOrd v)) ++ B.flatMap (fun b => lnO (bOrd b)) ++ B.flatMap dTx
noncomputable def writeT (V : List Vip) (B : List Back) : List Nat := match mayB V B with
  | true => textW V B
  | false => []
structure OkO (o : Ord) : Prop where
  ok : o.ok
  byt : Byt (lineO o)
  len : (lineO o).length ≤ 132
theorem okO {o : Ord} (h : MayO o) (ok : o.ok) : OkO o := ⟨ok, by rw [lineO_may h]; exact (lineN_ok h ok).1, by rw [lineO_may h]; exact (lineN_ok h ok).2⟩
theorem goodV_facts {v : Vip} (h : goodV v = true) : 1 ≤ v.id ∧ v.id ≤ 99 ∧ (v.mode = 1 ∨ v.mode = 2) ∧ (v.proto = 6 ∨ v.proto = 17) := by
  unfold goodV at h
  simp only [Bool.and_eq_true, Bool.or_eq_true, decide_eq_true_eq] at h
  obtain ⟨⟨⟨⟨h1, h2⟩, _⟩, _⟩, h3⟩ := h
  refine ⟨h1, h2, ?_, ?_⟩
  · rcases h3 with h | h
    · exact .inl h.1
    · exact .inr h.1
  · rcases h3 with ⟨_, h | h⟩ | ⟨_, h⟩
    · exact .inl h
    · exact .inr h
    · exact .inl h
theorem goodB_facts {b : Back} (h : goodB b = true) : 1 ≤ b.id ∧ b.id ≤ 999 ∧ 1 ≤ b.weight ∧ b.weight ≤ 8 ∧ 1 ≤ b.life ∧ b.life ≤ 2 := by
  unfold goodB at h
  simp only [Bool.and_eq_true, decide_eq_true_eq] at h
  omega
theorem vOrd_may {v : Vip} (h : goodV v = true) (hv : v.ok) : MayO (vOrd v) ∧ (vOrd v).ok := by
  have h1 := goodV_facts h
  have h2 := hv.addr; have h3 := hv.port; have h4 := hv.proto
  refine ⟨?_, ?_⟩ <;> (unfold vOrd; constructor <;> dsimp only <;> omega)
theorem bOrd_may {V : List Vip} {B : List Back} (hR : Right V B) {b : Back} (hb : b ∈ B) (ho : b.ok) : MayO (bOrd b) ∧ (bOrd b).ok ∧ MayO (dOrd b) ∧ (dOrd b).ok := by
  have h1 := goodB_facts (hR.gb b hb)
  obtain ⟨v, hv, he⟩ := hR.hv b hb
  have h2 := goodV_facts (hR.gv v hv)
  have h3 := ho.addr
  refine ⟨?_, ?_, ?_, ?_⟩ <;> (first | unfold bOrd | unfold dOrd) <;> (constructor <;> dsimp only <;> omega)
theorem flat_byt {α : Type} {f : α → List Nat} : ∀ {L : List α}, (∀ x, x ∈ L → Byt (f x)) → Byt (L.flatMap f)
  | [], _ => by simp [Byt]
  | x :: L, h => by
    rw [List.flatMap_cons]
    exact (h x List.mem_cons_self).append (flat_byt fun y hy => h y (List.mem_cons_of_mem _ hy))
theorem flat_le {α : Type} {n : Nat} {f : α → List Nat} : ∀ {L : List α}, (∀ x, x ∈ L → (f x).length ≤ n) → (L.flatMap f).length ≤ n * L.length
  | [], _ => by simp
  | x :: L, h => by
    have h1 := flat_le (L := L) fun y hy => h y (List.mem_cons_of_mem _ hy)
    have h2 := h x List.mem_cons_self
    rw [List.flatMap_cons, List.length_append, List.length_cons, Nat.mul_succ]
    omega
theorem lnO_ok {o : Ord} (h : OkO o) : Byt (lnO o) ∧ (lnO o).length ≤ 133 ∧ 0 < (lnO o).length := by
  have := h.len
  unfold lnO
  exact ⟨h.byt.append (.cons (by decide) .nil), by simp; omega, by simp⟩
structure WOk (V : List Vip) (B : List Back) : Prop where
  v : ∀ x, x ∈ V → OkO (vOrd x)
  b : ∀ x, x ∈ B → OkO (bOrd x)
  d : ∀ x, x ∈ B → OkO (dOrd x) ∧ lineO (dOrd x) = wDrain ++ 32 :: dgI x.id ∧ (0 ≤ x.id ∧ x.id ≤ 65535)
theorem wok {V : List Vip} {B : List Back} (hR : Right V B) (wV : ∀ v ∈ V, v.ok) (wB : ∀ b ∈ B, b.ok) : WOk V B := by
  refine ⟨fun x hx => ?_, fun x hx => ?_, fun x hx => ?_⟩
  · obtain ⟨h1, h2⟩ := vOrd_may (hR.gv x hx) (wV x hx); exact okO h1 h2
  · obtain ⟨h1, h2, _, _⟩ := bOrd_may hR hx (wB x hx); exact okO h1 h2
  · obtain ⟨_, _, h1, h2⟩ := bOrd_may hR hx (wB x hx)
    refine ⟨okO h1 h2, by rw [lineO_may h1]; rfl, h1.id⟩
theorem dTx_len {b : Back} (h : OkO (dOrd b)) : (dTx b).length ≤ 133 := by
  unfold dTx; split
  · exact (lnO_ok h).2.1
  · simp
abbrev vTx (L : List Vip) : List Nat := L.flatMap fun v => lnO (vOrd v)
abbrev bTx (L : List Back) : List Nat := L.flatMap fun b => lnO (bOrd b)
abbrev dTxs (L : List Back) : List Nat := L.flatMap dTx
theorem vTx_len {V : List Vip} {B : List Back} (h : WOk V B) (k : Nat) : (vTx (V.take k)).length ≤ 133 * V.length := by
  have := flat_le (n := 133) (f := fun v => lnO (vOrd v)) (L := V.take k) fun x hx => (lnO_ok (h.v x (List.mem_of_mem_take hx))).2.1
  have h2 : (V.take k).length ≤ V.length := by rw [List.length_take]; omega
  have := Nat.mul_le_mul_left 133 h2
  show (List.flatMap _ _).length ≤ _
  omega
theorem bTx_len {V : List Vip} {B : List Back} (h : WOk V B) (k : Nat) : (bTx (B.take k)).length ≤ 133 * B.length := by
  have := flat_le (n := 133) (f := fun v => lnO (bOrd v)) (L := B.take k) fun x hx => (lnO_ok (h.b x (List.mem_of_mem_take hx))).2.1
  have h2 : (B.take k).length ≤ B.length := by rw [List.length_take]; omega
  have := Nat.mul_le_mul_left 133 h2
  show (List.flatMap _ _).length ≤ _
  omega
theorem dTxs_len {V : List Vip} {B : List Back} (h : WOk V B) (k : Nat) : (dTxs (B.take k)).length ≤ 133 * B.length := by
  have := flat_le (n := 133) (f := dTx) (L := B.take k) fun x hx => dTx_len (h.d x (List.mem_of_mem_take hx)).1
  have h2 : (B.take k).length ≤ B.length := by rw [List.length_take]; omega
  have := Nat.mul_le_mul_left 133 h2
  show (List.flatMap _ _).length ≤ _
  omega
theorem textW_ok {V : List Vip} {B : List Back} (h : WOk V B) : Byt (textW V B) ∧ (textW V B).length ≤ 133 * V.length + 266 * B.length := by
  refine ⟨?_, ?_⟩
  · refine ((flat_byt fun x hx => (lnO_ok (h.v x hx)).1).append (flat_byt fun x hx => (lnO_ok (h.b x hx)).1)).append (flat_byt fun x hx => ?_)
    unfold dTx; split
    · exact (lnO_ok (h.d x hx).1).1
    · exact .nil
  · have h1 := vTx_len h V.length
    have h2 := bTx_len h B.length
    have h3 := dTxs_len h B.length
    rw [List.take_length] at h1 h2 h3
    unfold textW
    rw [List.length_append, List.length_append]
    show (vTx V).length + (bTx B).length + (dTxs B).length ≤ _
    have h1 : (vTx V).length ≤ 133 * V.length := h1
    have h2 : (bTx B).length ≤ 133 * B.length := h2
    have h3 : (dTxs B).length ≤ 133 * B.length := h3
    omega
def bc : Nat → D
  | 0 => .v (.pointer none)
  | _ + 1 => .loc 1 0
theorem len_nl {x : List Nat} (h : x.length ≤ 132) : (((strB x).size + ({ data := #[10] } : ByteArray).size : Nat) : Int) ≤ 9223372036854775807 := cat_le (a := x) (b := [10]) rfl rfl (by simp; omega)
theorem flat_step {α : Type} {L : List α} {k : Nat} {x : α} (h : L[k]? = some x) (f : α → List Nat) : (L.take (k + 1)).flatMap f = (L.take k).flatMap f ++ f x := flat_snoc h f

set_option maxHeartbeats 4000000 in
theorem write_fn (V : List Vip) (B : List Back) (hV : V.length ≤ 100) (hB : B.length ≤ 100) (wV : ∀ v ∈ V, v.ok) (wB : ∀ b ∈ B, b.ok) : Fn Tryz.prog 19 [farmD V B] fun d => d = strD (writeT V B) := by
  refine fnOf [] Tryz.func19 rfl (by kernel_rfl) (Nat.le_of_ble_eq_true rfl) ?_
  have hr := right_fn V B hV hB wV wB
  have hi := right_iff (B := B) wV
  unfold writeT
  cases hm : mayB V B with
  | false =>
    rw [hm] at hr
    conv => whnf
    refine CallVC.pure hr rfl ?_
    rintro _ rfl
    conv => whnf
    rfl
  | true =>
  rw [hm] at hr hi
  have hR := hi.1 rfl
  have hW := wok hR wV wB
  clear hm hi
  cases V with
  | nil =>
    have hBn : B = [] := by
      cases B with
      | nil => rfl
      | cons b r => obtain ⟨v, hv, _⟩ := hR.hv b List.mem_cons_self; cases hv
    subst hBn
    conv => whnf
    refine CallVC.pure hr rfl ?_
    rintro _ rfl
    conv => whnf
    refine ⟨Unit, fun _ => ⟨[(16, intD 0), (15, intD 0), (14, rowsV []), (3, .loc 1 0), (1, .loc 0 0)], [(0, .cells 45 [rowsV [], rowsB []]), (1, .cells bldT [.v (.pointer none), .v (.slice none 0 0)])], 2, ([], 0)⟩, fun _ => True, fun _ => 0, ⟨(), [], [], ?_, trivial⟩, fun _ _ => ?_⟩
    · repeat' (first | exact trivial | exact .inl (DLe.refl _) | exact .inl (DLe.nil _ _) | (refine .inr ⟨rfl, _, ?_, rfl⟩; rfl) | exact rfl | exact Nat.zero_le _ | constructor)
    conv => whnf
    refine ⟨Unit, fun _ => ⟨[(38, intD 0), (37, intD 0), (36, rowsB []), (3, .loc 1 0), (1, .loc 0 0)], [(0, .cells 45 [rowsV [], rowsB []]), (1, .cells bldT [.v (.pointer none), .v (.slice none 0 0)])], 2, ([], 0)⟩, fun _ => True, fun _ => 0, ⟨(), [], [], ?_, trivial⟩, fun _ _ => ?_⟩
    · repeat' (first | exact trivial | exact .inl (DLe.refl _) | exact .inl (DLe.nil _ _) | (refine .inr ⟨rfl, _, ?_, rfl⟩; rfl) | exact rfl | exact Nat.zero_le _ | constructor)
    conv => whnf
    refine ⟨Unit, fun _ => ⟨[(58, intD 0), (57, intD 0), (56, rowsB []), (3, .loc 1 0)], [(1, .cells bldT [.v (.pointer none), .v (.slice none 0 0)])], 2, ([], 0)⟩, fun _ => True, fun _ => 0, ⟨(), [], [], ?_, trivial⟩, fun _ _ => ?_⟩
    · repeat' (first | exact trivial | exact .inl (DLe.refl _) | exact .inl (DLe.nil _ _) | (refine .inr ⟨rfl, _, ?_, rfl⟩; rfl) | exact rfl | exact Nat.zero_le _ | constructor)
    conv => whnf
    refine goIn [(1, [0, 1, 2, 3, 5, 6, 7, 8, 9, 4, 10, 11])] Tryz.func47 rfl (by kernel_rfl) (Nat.le_of_ble_eq_true rfl) ?_
    conv => whnf
    refine op_unsafeDataNil rfl rfl ?_
    conv => whnf
    refine op_unsafeStringNil rfl rfl rfl ?_
    conv => whnf
    rfl
  | cons v0 V0 =>
  generalize hVV : v0 :: V0 = V at *
  have hV0 : V.length = V0.length + 1 := by rw [← hVV]; rfl
  have hwl := vTx_len hW
  have hbl := bTx_len hW
  have hdl := dTxs_len hW
  have htl := (textW_ok hW).2
  have hpos : 0 < (vTx V).length := by
    rw [← hVV]
    show 0 < (List.flatMap _ _).length
    rw [List.flatMap_cons, List.length_append]
    have := (lnO_ok (hW.v v0 (by rw [← hVV]; exact List.mem_cons_self))).2.2
    omega
  conv => whnf
  refine CallVC.pure hr rfl ?_
  rintro _ rfl
  conv => whnf
  refine ⟨Nat, fun k => ⟨[(16, intD k), (15, intD V.length), (14, rowsV V), (3, .loc 1 0), (1, .loc 0 0)], [(0, .cells 45 [rowsV V, rowsB B]), (1, .cells bldT [bc k, .grow 2]), (2, .grow Int 5 1 encB (bytesI (strB (vTx (V.take k)))))], 3, ([], 0)⟩, fun k => k ≤ V.length, fun k => V.length - k, ⟨0, [], [2], ?_, Nat.zero_le _⟩, fun k hk => ?_⟩
  · repeat' (first | exact trivial | exact .inl (DLe.refl _) | exact .inl (DLe.nil _ _) | (refine .inr ⟨rfl, _, ?_, rfl⟩; rfl) | exact rfl | exact Nat.zero_le _ | constructor)
  replace hk : k ≤ V.length := hk
  have e0 : IntKind.i64.wrap ((k : Int) + 1) = ((k + 1 : Nat) : Int) := wrap_next (n := 102) (by omega) (by decide)
  have hbc : bc k = .v (.pointer none) ∨ bc k = .loc 1 0 := by cases k with | zero => exact .inl rfl | succ k => exact .inr rfl
  have hlk := hwl k
  conv => whnf
  refine Fork.intro (fun h1 => ?_) (fun h1 => ?_)
  · have h1 := of_decide_eq_true h1
    conv => whnf
    refine ⟨rfl, ⟨by omega, h1⟩, fun v hx => ?_⟩
    have hx : V[k]? = some v := hx
    have ho := hW.v v (List.mem_of_getElem? hx)
    have hst : vTx (V.take (k + 1)) = vTx (V.take k) ++ (lineO (vOrd v) ++ [10]) := flat_step hx fun v => lnO (vOrd v)
    have hln := line_fn (vOrd v) ho.ok
    have hlen := ho.len
    generalize hoo : vOrd v = o at *
    have hargs : D.agg (ordD o) = .agg (ordD (vOrd v)) := by rw [hoo]
    rw [hargs] at hln
    clear hargs
    conv => whnf
    refine CallVC.pure hln rfl ?_
    rintro _ rfl
    conv => whnf
    refine ⟨len_nl hlen, ?_⟩
    rw [catR (w := [10]) (b := ⟨#[10]⟩) rfl]
    conv => whnf
    refine goIn [] Tryz.func46 rfl (by kernel_rfl) (Nat.le_of_ble_eq_true rfl) ?_
    conv => whnf
    refine copyCheck_vc (id := 1) rfl hbc ?_
    conv => whnf
    refine op_appendStr (old := bytesI (strB (vTx (V.take k)))) (L := bytesI (strB (vTx (V.take k) ++ (lineO (o) ++ [10])))) ttH rfl rfl rfl rfl rfl rfl byteZero (bytesI_str _ _) (by rw [strB_size]; simp) (by rw [bytesI_len, strB_size]; simp only [List.length_append, List.length_cons, List.length_nil]; omega) ?_
    conv => whnf
    rw [e0]
    refine ⟨k + 1, [(2, 4)], [], ?_, by show k + 1 ≤ V.length; omega, by show V.length - (k + 1) < V.length - k; omega⟩
    rw [show vTx (V.take k) ++ (lineO o ++ [10]) = vTx (V.take (k + 1)) from hst.symm]
    repeat' (first | exact trivial | exact .inl (DLe.refl _) | exact .inl (DLe.nil _ _) | (refine .inr ⟨rfl, _, ?_, rfl⟩; rfl) | exact rfl | exact Nat.zero_le _ | constructor)
  · have h1 := of_decide_eq_false h1
    obtain rfl : k = V.length := by omega
    clear hbc hlk
    rw [List.take_length, show bc V.length = .loc 1 0 from by rw [hV0]; rfl]
    conv => whnf
    refine ⟨Nat, fun k => ⟨[(38, intD k), (37, intD B.length), (36, rowsB B), (3, .loc 1 0), (1, .loc 0 0)], [(0, .cells 45 [rowsV V, rowsB B]), (1, .cells bldT [.loc 1 0, .grow 2]), (2, .grow Int 5 1 encB (bytesI (strB (vTx V ++ bTx (B.take k)))))], 3, ([], 0)⟩, fun k => k ≤ B.length, fun k => B.length - k, ⟨0, [], [], ?_, Nat.zero_le _⟩, fun k hk => ?_⟩
    · rw [show bytesI (strB (vTx V)) = bytesI (strB (vTx V ++ bTx (B.take 0))) from by rw [show vTx V ++ bTx (B.take 0) = vTx V from List.append_nil _]]
      repeat' (first | exact trivial | exact .inl (DLe.refl _) | exact .inl (DLe.nil _ _) | (refine .inr ⟨rfl, _, ?_, rfl⟩; rfl) | exact rfl | exact Nat.zero_le _ | constructor)
    replace hk : k ≤ B.length := hk
    have e1 : IntKind.i64.wrap ((k : Int) + 1) = ((k + 1 : Nat) : Int) := wrap_next (n := 102) (by omega) (by decide)
    have hlk := hbl k
    have hvl := hwl V.length
    rw [List.take_length] at hvl
    conv => whnf
    refine Fork.intro (fun h2 => ?_) (fun h2 => ?_)
    · have h2 := of_decide_eq_true h2
      conv => whnf
      refine ⟨rfl, ⟨by omega, h2⟩, fun b hx => ?_⟩
      have hx : B[k]? = some b := hx
      have ho := hW.b b (List.mem_of_getElem? hx)
      have hst : bTx (B.take (k + 1)) = bTx (B.take k) ++ (lineO (bOrd b) ++ [10]) := flat_step hx fun b => lnO (bOrd b)
      have hln := line_fn (bOrd b) ho.ok
      have hlen := ho.len
      generalize hoo : bOrd b = o at *
      have hargs : D.agg (ordD o) = .agg (ordD (bOrd b)) := by rw [hoo]
      rw [hargs] at hln
      clear hargs
      conv => whnf
      refine CallVC.pure hln rfl ?_
      rintro _ rfl
      conv => whnf
      refine ⟨len_nl hlen, ?_⟩
      rw [catR (w := [10]) (b := ⟨#[10]⟩) rfl]
      conv => whnf
      refine goIn [] Tryz.func46 rfl (by kernel_rfl) (Nat.le_of_ble_eq_true rfl) ?_
      conv => whnf
      refine copyCheck_vc (id := 1) rfl (.inr rfl) ?_
      conv => whnf
      refine op_appendStr (old := bytesI (strB (vTx V ++ bTx (B.take k)))) (L := bytesI (strB (vTx V ++ bTx (B.take k) ++ (lineO (o) ++ [10])))) ttH rfl rfl rfl rfl rfl rfl byteZero (bytesI_str _ _) (by rw [strB_size]; simp) (by rw [bytesI_len, strB_size]; simp only [List.length_append, List.length_cons, List.length_nil]; omega) ?_
      conv => whnf
      rw [e1]
      refine ⟨k + 1, [(2, 4)], [], ?_, by show k + 1 ≤ B.length; omega, by show B.length - (k + 1) < B.length - k; omega⟩
      rw [show vTx V ++ bTx (B.take k) ++ (lineO o ++ [10]) = vTx V ++ bTx (B.take (k + 1)) from by rw [hst, List.append_assoc]]
      repeat' (first | exact trivial | exact .inl (DLe.refl _) | exact .inl (DLe.nil _ _) | (refine .inr ⟨rfl, _, ?_, rfl⟩; rfl) | exact rfl | exact Nat.zero_le _ | constructor)
    · have h2 := of_decide_eq_false h2
      obtain rfl : k = B.length := by omega
      clear hlk
      rw [List.take_length]
      conv => whnf
      refine ⟨Nat, fun k => ⟨[(58, intD k), (57, intD B.length), (56, rowsB B), (3, .loc 1 0)], [(1, .cells bldT [.loc 1 0, .grow 2]), (2, .grow Int 5 1 encB (bytesI (strB (vTx V ++ bTx B ++ dTxs (B.take k)))))], 3, ([], 0)⟩, fun k => k ≤ B.length, fun k => B.length - k, ⟨0, [], [], ?_, Nat.zero_le _⟩, fun k hk => ?_⟩
      · rw [show bytesI (strB (vTx V ++ bTx B)) = bytesI (strB (vTx V ++ bTx B ++ dTxs (B.take 0))) from by rw [show vTx V ++ bTx B ++ dTxs (B.take 0) = vTx V ++ bTx B from List.append_nil _]]
        repeat' (first | exact trivial | exact .inl (DLe.refl _) | exact .inl (DLe.nil _ _) | (refine .inr ⟨rfl, _, ?_, rfl⟩; rfl) | exact rfl | exact Nat.zero_le _ | constructor)
      replace hk : k ≤ B.length := hk
      have e2 : IntKind.i64.wrap ((k : Int) + 1) = ((k + 1 : Nat) : Int) := wrap_next (n := 102) (by omega) (by decide)
      have hlk := hdl k
      have hbb := hbl B.length
      rw [List.take_length] at hbb
      conv => whnf
      refine Fork.intro (fun h3 => ?_) (fun h3 => ?_)
      · have h3 := of_decide_eq_true h3
        conv => whnf
        refine ⟨rfl, ⟨by omega, h3⟩, fun b hx => ?_⟩
        have hx : B[k]? = some b := hx
        have ho := (hW.d b (List.mem_of_getElem? hx)).1
        have hst : dTxs (B.take (k + 1)) = dTxs (B.take k) ++ dTx b := flat_step hx dTx
        have hln := line_fn (dOrd b) ho.ok
        have hlen := ho.len
        generalize hoo : dOrd b = o at *
        have hargs : D.agg (ordD o) = .agg (ordD (dOrd b)) := by rw [hoo]
        rw [hargs] at hln
        clear hargs
        have hdt : dTx b = match decide (b.life = 2) with
          | true => lnO o
          | false => [] := by rw [← hoo]; rfl
        conv => whnf
        refine Fork.intro (fun h4 => ?_) (fun h4 => ?_)
        · replace h4 : decide (b.life = 2) = true := h4
          rw [h4] at hdt
          replace hdt : dTx b = lnO o := hdt
          conv => whnf
          refine CallVC.pure hln rfl ?_
          rintro _ rfl
          conv => whnf
          refine ⟨len_nl hlen, ?_⟩
          rw [catR (w := [10]) (b := ⟨#[10]⟩) rfl]
          conv => whnf
          refine goIn [] Tryz.func46 rfl (by kernel_rfl) (Nat.le_of_ble_eq_true rfl) ?_
          conv => whnf
          refine copyCheck_vc (id := 1) rfl (.inr rfl) ?_
          conv => whnf
          refine op_appendStr (old := bytesI (strB (vTx V ++ bTx B ++ dTxs (B.take k)))) (L := bytesI (strB (vTx V ++ bTx B ++ dTxs (B.take k) ++ (lineO (o) ++ [10])))) ttH rfl rfl rfl rfl rfl rfl byteZero (bytesI_str _ _) (by rw [strB_size]; simp) (by rw [bytesI_len, strB_size]; simp only [List.length_append, List.length_cons, List.length_nil]; omega) ?_
          conv => whnf
          rw [e2]
          refine ⟨k + 1, [(2, 4)], [], ?_, by show k + 1 ≤ B.length; omega, by show B.length - (k + 1) < B.length - k; omega⟩
          rw [show vTx V ++ bTx B ++ dTxs (B.take k) ++ (lineO o ++ [10]) = vTx V ++ bTx B ++ dTxs (B.take (k + 1)) from by rw [hst, hdt, List.append_assoc]; rfl]
          repeat' (first | exact trivial | exact .inl (DLe.refl _) | exact .inl (DLe.nil _ _) | (refine .inr ⟨rfl, _, ?_, rfl⟩; rfl) | exact rfl | exact Nat.zero_le _ | constructor)
        · replace h4 : decide (b.life = 2) = false := h4
          rw [h4] at hdt
          replace hdt : dTx b = [] := hdt
          conv => whnf
          rw [e2]
          refine ⟨k + 1, [], [], ?_, by show k + 1 ≤ B.length; omega, by show B.length - (k + 1) < B.length - k; omega⟩
          rw [show dTxs (B.take k) = dTxs (B.take (k + 1)) from by rw [hst, hdt, List.append_nil]]
          repeat' (first | exact trivial | exact .inl (DLe.refl _) | exact .inl (DLe.nil _ _) | (refine .inr ⟨rfl, _, ?_, rfl⟩; rfl) | exact rfl | exact Nat.zero_le _ | constructor)
      · have h3 := of_decide_eq_false h3
        obtain rfl : k = B.length := by omega
        rw [List.take_length, show vTx V ++ bTx B ++ dTxs B = textW V B from rfl]
        have htp : 0 < (textW V B).length := by
          show 0 < (vTx V ++ bTx B ++ dTxs B).length
          rw [List.length_append, List.length_append]; omega
        conv => whnf
        refine goIn [(1, [0, 1, 2, 3, 5, 6, 7, 8, 9, 4, 10, 11])] Tryz.func47 rfl (by kernel_rfl) (Nat.le_of_ble_eq_true rfl) ?_
        conv => whnf
        refine op_unsafeData (L := bytesI (strB (textW V B))) rfl rfl rfl (by rw [bytesI_len, strB_size]; exact htp) ?_
        conv => whnf
        refine op_unsafeString (el := 5) (b := strB (textW V B)) rfl rfl rfl rfl (by rw [strB_size]; exact htp) (by kernel_rfl) (by kernel_rfl) ?_
        conv => whnf
end Go.Proofs.YtooaeccmkgockaaGreatDoor.V
namespace Go.Proofs.YtooaeccmkgockaaGreatDoor.V
open Go.RowKit
attribute [local irreducible] Fn FnN OpVC

set_option maxHeartbeats 4000000 in
theorem rwrite_fn (V : List Vip) (B : List Back) (hV : V.length ≤ 100) (hB : B.length ≤ 100) (wV : ∀ v ∈ V, v.ok) (wB : ∀ b ∈ B, b.ok) : Fn Tryz.prog 20 [farmD V B] fun d => d = strD (writeT V B) := by
  refine fnOf [] Tryz.func20 rfl (by kernel_rfl) (Nat.le_of_ble_eq_true rfl) ?_
  have hr := rright_fn V B hV hB wV wB
  have hi := right_iff (B := B) wV
  unfold writeT
  cases hm : mayB V B with
  | false =>
    rw [hm] at hr
    conv => whnf
    refine CallVC.pure hr rfl ?_
    rintro _ rfl
    conv => whnf
    rfl
  | true =>
  rw [hm] at hr hi
  have hR := hi.1 rfl
  have hW := wok hR wV wB
  clear hm hi
  have hwl := vTx_len hW
  have hbl := bTx_len hW
  have hdl := dTxs_len hW
  conv => whnf
  refine CallVC.pure hr rfl ?_
  rintro _ rfl
  conv => whnf
  refine ⟨Nat, fun k => ⟨[(4, intD k), (3, strD (vTx (V.take k))), (1, .loc 0 0)], [(0, .cells 45 [rowsV V, rowsB B])], 1, ([], 0)⟩, fun k => k ≤ V.length, fun k => V.length - k, ⟨0, [], [], ?_, Nat.zero_le _⟩, fun k hk => ?_⟩
  · repeat' (first | exact trivial | exact .inl (DLe.refl _) | exact .inl (DLe.nil _ _) | (refine .inr ⟨rfl, _, ?_, rfl⟩; rfl) | exact rfl | exact Nat.zero_le _ | constructor)
  replace hk : k ≤ V.length := hk
  have e0 : IntKind.i64.wrap ((k : Int) + 1) = ((k + 1 : Nat) : Int) := wrap_next (n := 102) (by omega) (by decide)
  have hlk := hwl k
  conv => whnf
  refine Fork.intro (fun h1 => ?_) (fun h1 => ?_)
  · have h1 := of_decide_eq_true h1
    conv => whnf
    refine ⟨rfl, ⟨by omega, h1⟩, fun v hx => ?_⟩
    have hx : V[k]? = some v := hx
    have ho := hW.v v (List.mem_of_getElem? hx)
    have hst : vTx (V.take (k + 1)) = vTx (V.take k) ++ (lineO (vOrd v) ++ [10]) := flat_step hx fun v => lnO (vOrd v)
    have hln := line_fnR (vOrd v) ho.ok
    have hlen := ho.len
    generalize hoo : vOrd v = o at *
    have hargs : D.agg (ordD o) = .agg (ordD (vOrd v)) := by rw [hoo]
    rw [hargs] at hln
    clear hargs
    conv => whnf
    refine CallVC.pure hln rfl ?_
    rintro _ rfl
    conv => whnf
    refine ⟨cat_le (a := vTx (V.take k)) (b := lineO o) rfl rfl (by omega), ?_⟩
    rw [catR (x := vTx (V.take k)) (w := lineO o) rfl]
    conv => whnf
    refine ⟨cat_le (a := vTx (V.take k) ++ lineO o) (b := [10]) rfl rfl (by rw [List.length_append, List.length_cons, List.length_nil]; omega), ?_⟩
    rw [catR (x := vTx (V.take k) ++ lineO o) (w := [10]) (b := ⟨#[10]⟩) rfl, List.append_assoc, ← hst]
    conv => whnf
    rw [e0]
    refine ⟨k + 1, [], [], ?_, by show k + 1 ≤ V.length; omega, by show V.length - (k + 1) < V.length - k; omega⟩
    repeat' (first | exact trivial | exact .inl (DLe.refl _) | exact .inl (DLe.nil _ _) | (refine .inr ⟨rfl, _, ?_, rfl⟩; rfl) | exact rfl | exact Nat.zero_le _ | constructor)
  · have h1 := of_decide_eq_false h1
    obtain rfl : k = V.length := by omega
    rw [List.take_length]
    conv => whnf
    refine ⟨Nat, fun k => ⟨[(7, intD k), (6, strD (dTxs (B.take k))), (3, strD (vTx V ++ bTx (B.take k))), (1, .loc 0 0)], [(0, .cells 45 [rowsV V, rowsB B])], 1, ([], 0)⟩, fun k => k ≤ B.length, fun k => B.length - k, ⟨0, [], [], ?_, Nat.zero_le _⟩, fun k hk => ?_⟩
    · rw [show strD (vTx V) = strD (vTx V ++ bTx (B.take 0)) from by rw [show vTx V ++ bTx (B.take 0) = vTx V from List.append_nil _]]
      repeat' (first | exact trivial | exact .inl (DLe.refl _) | exact .inl (DLe.nil _ _) | (refine .inr ⟨rfl, _, ?_, rfl⟩; rfl) | exact rfl | exact Nat.zero_le _ | constructor)
    replace hk : k ≤ B.length := hk
    have e1 : IntKind.i64.wrap ((k : Int) + 1) = ((k + 1 : Nat) : Int) := wrap_next (n := 102) (by omega) (by decide)
    have hbk := hbl k
    have hdk := hdl k
    have hvl := hwl V.length
    rw [List.take_length] at hvl
    conv => whnf
    refine Fork.intro (fun h2 => ?_) (fun h2 => ?_)
    · have h2 := of_decide_eq_true h2
      conv => whnf
      refine ⟨rfl, ⟨by omega, h2⟩, fun b hx => ?_⟩
      have hx : B[k]? = some b := hx
      have ho := hW.b b (List.mem_of_getElem? hx)
      have hd := hW.d b (List.mem_of_getElem? hx)
      have hst : bTx (B.take (k + 1)) = bTx (B.take k) ++ (lineO (bOrd b) ++ [10]) := flat_step hx fun b => lnO (bOrd b)
      have hsd : dTxs (B.take (k + 1)) = dTxs (B.take k) ++ dTx b := flat_step hx dTx
      have hdt : dTx b = match decide (b.life = 2) with
        | true => lnO (dOrd b)
        | false => [] := rfl
      have hdo : lnO (dOrd b) = (wDrain ++ 32 :: dgI b.id) ++ [10] := by rw [lnO, hd.2.1]
      have hdlen := hd.1.len
      rw [hd.2.1, List.length_append, List.length_cons] at hdlen
      replace hdlen : (dgI b.id).length ≤ 126 := by simp at hdlen; omega
      have hnum := num_fn b.id hd.2.2
      have hln := line_fnR (bOrd b) ho.ok
      have hlen := ho.len
      generalize hoo : bOrd b = o at *
      have hargs : D.agg (ordD o) = .agg (ordD (bOrd b)) := by rw [hoo]
      rw [hargs] at hln
      clear hargs
      conv => whnf
      refine CallVC.pure hln rfl ?_
      rintro _ rfl
      conv => whnf
      refine ⟨cat_le (a := vTx V ++ bTx (B.take k)) (b := lineO o) rfl rfl (by rw [List.length_append]; omega), ?_⟩
      rw [catR (x := vTx V ++ bTx (B.take k)) (w := lineO o) rfl]
      conv => whnf
      refine ⟨cat_le (a := vTx V ++ bTx (B.take k) ++ lineO o) (b := [10]) rfl rfl (by rw [List.length_append, List.length_append, List.length_cons, List.length_nil]; omega), ?_⟩
      rw [catR (x := vTx V ++ bTx (B.take k) ++ lineO o) (w := [10]) (b := ⟨#[10]⟩) rfl, show vTx V ++ bTx (B.take k) ++ lineO o ++ [10] = vTx V ++ bTx (B.take (k + 1)) from by rw [hst]; simp only [List.append_assoc]]
      conv => whnf
      refine Fork.intro (fun h4 => ?_) (fun h4 => ?_)
      · replace h4 : decide (b.life = 2) = true := h4
        rw [h4] at hdt
        replace hdt : dTx b = lnO (dOrd b) := hdt
        rw [hdt, hdo] at hsd
        have hw6 : (wDrain ++ [32]).length = 6 := rfl
        have hw1 : ([10] : List Nat).length = 1 := rfl
        conv => whnf
        refine ⟨cat_le (a := dTxs (B.take k)) (b := wDrain ++ [32]) rfl rfl (by rw [hw6]; omega), ?_⟩
        rw [catR (x := dTxs (B.take k)) (w := wDrain ++ [32]) (b := ⟨#[100, 114, 97, 105, 110, 32]⟩) rfl]
        conv => whnf
        refine CallVC.pure hnum rfl ?_
        rintro _ rfl
        conv => whnf
        refine ⟨cat_le (a := dTxs (B.take k) ++ (wDrain ++ [32])) (b := dgI b.id) rfl rfl (by rw [List.length_append, hw6]; omega), ?_⟩
        rw [catR (x := dTxs (B.take k) ++ (wDrain ++ [32])) (w := dgI b.id) rfl]
        conv => whnf
        refine ⟨cat_le (a := dTxs (B.take k) ++ (wDrain ++ [32]) ++ dgI b.id) (b := [10]) rfl rfl (by rw [List.length_append, List.length_append, hw6, hw1]; omega), ?_⟩
        rw [catR (x := dTxs (B.take k) ++ (wDrain ++ [32]) ++ dgI b.id) (w := [10]) (b := ⟨#[10]⟩) rfl, show dTxs (B.take k) ++ (wDrain ++ [32]) ++ dgI b.id ++ [10] = dTxs (B.take (k + 1)) from by rw [hsd]; simp only [List.append_assoc, List.cons_append, List.nil_append]]
        conv => whnf
        rw [e1]
        refine ⟨k + 1, [], [], ?_, by show k + 1 ≤ B.length; omega, by show B.length - (k + 1) < B.length - k; omega⟩
        repeat' (first | exact trivial | exact .inl (DLe.refl _) | exact .inl (DLe.nil _ _) | (refine .inr ⟨rfl, _, ?_, rfl⟩; rfl) | exact rfl | exact Nat.zero_le _ | constructor)
      · replace h4 : decide (b.life = 2) = false := h4
        rw [h4] at hdt
        replace hdt : dTx b = [] := hdt
        rw [hdt, List.append_nil] at hsd
        conv => whnf
        rw [e1]
        refine ⟨k + 1, [], [], ?_, by show k + 1 ≤ B.length; omega, by show B.length - (k + 1) < B.length - k; omega⟩
        rw [← hsd]
        repeat' (first | exact trivial | exact .inl (DLe.refl _) | exact .inl (DLe.nil _ _) | (refine .inr ⟨rfl, _, ?_, rfl⟩; rfl) | exact rfl | exact Nat.zero_le _ | constructor)
    · have h2 := of_decide_eq_false h2
      obtain rfl : k = B.length := by omega
      rw [List.take_length] at *
      conv => whnf
      refine ⟨cat_le (a := vTx V ++ bTx B) (b := dTxs B) rfl rfl (by rw [List.length_append]; omega), ?_⟩
      rw [catR (x := vTx V ++ bTx B) (w := dTxs B) rfl]
      conv => whnf
      rfl
end Go.Proofs.YtooaeccmkgockaaGreatDoor.V
namespace Go.Proofs.YtooaeccmkgockaaGreatDoor.V

/-! ### No line holds the sign that parts lines -/
theorem dg_no (n : Int) : ∀ c, c ∈ dgI n → c ≠ 10 := dg_ne n (.inl (by decide))
theorem tx_no (n : Int) : ∀ c, c ∈ txI n → c ≠ 10 := tx_ne n (by decide) (.inl (by decide))
theorem mode_no (n : Int) : ∀ c, c ∈ modeW n → c ≠ 10 := by
  unfold modeW; split <;> decide
theorem proto_no (n : Int) : ∀ c, c ∈ protoW n → c ≠ 10 := by
  unfold protoW; split <;> decide
theorem no_app {x y : List Nat} (hx : ∀ c, c ∈ x → c ≠ 10) (hy : ∀ c, c ∈ y → c ≠ 10) : ∀ c, c ∈ x ++ 32 :: y → c ≠ 10 := fun c hc => by
  rcases List.mem_append.1 hc with h | h
  · exact hx c h
  · rcases List.mem_cons.1 h with rfl | h
    · decide
    · exact hy c h
theorem no_app2 {x y : List Nat} (hx : ∀ c, c ∈ x → c ≠ 10) (hy : ∀ c, c ∈ y → c ≠ 10) : ∀ c, c ∈ x ++ 58 :: y → c ≠ 10 := fun c hc => by
  rcases List.mem_append.1 hc with h | h
  · exact hx c h
  · rcases List.mem_cons.1 h with rfl | h
    · decide
    · exact hy c h
theorem lineN_no (o : Ord) : ∀ c, c ∈ lineN o → c ≠ 10 := by
  unfold lineN
  split
  · exact no_app (by decide) (no_app (dg_no _) (no_app (no_app2 (tx_no _) (dg_no _)) (no_app (proto_no _) (mode_no _))))
  · exact no_app (by decide) (no_app (dg_no _) (no_app (dg_no _) (no_app (tx_no _) (no_app (by decide) (dg_no _)))))
  · exact no_app (by decide) (dg_no _)
  · exact no_app (by decide) (dg_no _)
  · exact no_app (by decide) (no_app (dg_no _) (dg_no _))
  · exact no_app (by decide) (no_app (dg_no _) (mode_no _))
  · decide

/-! ### Orders written are orders read -/
def numF : Nat → List Ord → List Ord
  | _, [] => []
  | n, o :: r => { o with count := (n + 1 : Nat) } :: numF (n + 1) r
theorem spl_lines : ∀ (L : List Ord), (∀ o, o ∈ L → MayO o) → spl 10 (L.flatMap lnO) = L.map lineO ++ [[]]
  | [], _ => rfl
  | o :: r, h => by
    have ih := spl_lines r fun x hx => h x (List.mem_cons_of_mem _ hx)
    have hm := h o List.mem_cons_self
    rw [List.flatMap_cons, show lnO o ++ r.flatMap lnO = lineO o ++ 10 :: r.flatMap lnO from by unfold lnO; rw [List.append_assoc]; rfl]
    show splB (eqC 10) _ = _
    rw [splB_app (eqC_ne (by rw [lineO_may hm]; exact lineN_no o)) (eqC_self 10)]
    show lineO o :: spl 10 _ = _
    rw [ih]; rfl
theorem pLines_all : ∀ (L : List Ord) (i : Nat) (out : List Ord), (∀ o, o ∈ L → MayO o ∧ o.ok) → pLines (L.map lineO ++ [[]]) i out = (out ++ numF out.length L, 0, 0)
  | [], i, out, _ => by
    show pLines [[]] i out = _
    simp only [pLines, numF, List.append_nil]
    rfl
  | o :: r, i, out, h => by
    obtain ⟨hm, ok⟩ := h o List.mem_cons_self
    have hp := pRead_line hm ok
    have hne : ¬ lineO o = [] := fun e => by
      rw [e, pRead_nil] at hp
      have := congrArg Prod.snd hp
      exact absurd this (show ¬ (3 : Int) = 0 by decide)
    show pLines (lineO o :: (r.map lineO ++ [[]])) i out = _
    rw [pLines, decide_eq_false hne, hp]
    show pLines (r.map lineO ++ [[]]) (i + 1) (out ++ [{ o with count := (out.length + 1 : Nat) }]) = _
    rw [pLines_all r (i + 1) _ fun x hx => h x (List.mem_cons_of_mem _ hx), List.length_append]
    show (out ++ [_] ++ numF (out.length + 1) r, _, _) = _
    rw [List.append_assoc]
    rfl
theorem load_runW : ∀ (L : List Ord) (n : Nat) (V : List Vip) (B : List Back) (V' : List Vip) (B' : List Back), runF V B L = some (V', B') → loadL (numF n L) V B (n : Int) = ((V', B'), 0)
  | [], n, V, B, V', B', h => by
    have h : some (V, B) = some (V', B') := h
    injection h with h; injection h with h1 h2
    rw [h1, h2]; rfl
  | o :: r, n, V, B, V', B', h => by
    rw [runF_cons] at h
    cases he : decide ((applyF V B o).2 = 0) with
    | false => rw [he] at h; cases h
    | true =>
      rw [he] at h
      have h : runF (applyF V B o).1.1 (applyF V B o).1.2 r = some (V', B') := h
      have hd : doF V B (n : Int) { o with count := (n + 1 : Nat) } = (((applyF V B o).1, ((n + 1 : Nat) : Int)), 0) := by
        unfold doF
        rw [show decide (({ o with count := ((n + 1 : Nat) : Int) } : Ord).count ≤ (n : Int)) = false from decide_eq_false (by show ¬ ((n + 1 : Nat) : Int) ≤ n; omega)]
        show (match decide ((applyF V B o).2 = 0) with
          | true => _
          | false => _) = _
        rw [he]
        rfl
      show loadL ({ o with count := (n + 1 : Nat) } :: numF (n + 1) r) V B (n : Int) = _
      rw [loadL, hd]
      exact load_runW r (n + 1) _ _ _ _ h

/-! ### Orders written make the farm -/
def dOrds (b : Back) : List Ord := match decide (b.life = 2) with
  | true => [dOrd b]
  | false => []
def ordsW (V : List Vip) (B : List Back) : List Ord := V.map vOrd ++ B.map bOrd ++ B.flatMap dOrds
theorem textW_ords (V : List Vip) (B : List Back) : textW V B = (ordsW V B).flatMap lnO := by
  unfold textW ordsW
  rw [List.flatMap_append, List.flatMap_append]
  congr 1
  · congr 1
    · rw [List.flatMap_map]
    · rw [List.flatMap_map]
  · rw [List.flatMap_assoc]
    congr 1
    funext b
    unfold dTx dOrds
    cases decide (b.life = 2) with
    | true => exact (List.append_nil _).symm
    | false => rfl
theorem ordsW_may {V : List Vip} {B : List Back} (hR : Right V B) (wV : ∀ v ∈ V, v.ok) (wB : ∀ b ∈ B, b.ok) : ∀ o, o ∈ ordsW V B → MayO o ∧ o.ok := by
  intro o ho
  unfold ordsW at ho
  rcases List.mem_append.1 ho with ho | ho
  · rcases List.mem_append.1 ho with ho | ho
    · obtain ⟨v, hv, rfl⟩ := List.mem_map.1 ho
      exact vOrd_may (hR.gv v hv) (wV v hv)
    · obtain ⟨b, hb, rfl⟩ := List.mem_map.1 ho
      have := bOrd_may hR hb (wB b hb)
      exact ⟨this.1, this.2.1⟩
  · obtain ⟨b, hb, ho⟩ := List.mem_flatMap.1 ho
    unfold dOrds at ho
    split at ho
    · obtain rfl := List.mem_singleton.1 ho
      have := bOrd_may hR hb (wB b hb)
      exact this.2.2
    · cases ho
def oneB (b : Back) : Back := { b with life := 1 }
theorem one_good {b : Back} (h : goodB b = true) : goodB (oneB b) = true := by
  unfold goodB oneB at *
  simp only [Bool.and_eq_true, decide_eq_true_eq] at h ⊢
  exact ⟨⟨h.1.1, by decide⟩, by decide⟩
theorem right_one {V : List Vip} {B : List Back} (hR : Right V B) : Right V (B.map oneB) := by
  refine ⟨hR.lv, by rw [List.length_map]; exact hR.lb, hR.sv, hR.pv, hR.gv, ?_, ?_, ?_⟩
  · rw [List.pairwise_map]; exact hR.sb
  · intro b hb
    obtain ⟨x, hx, rfl⟩ := List.mem_map.1 hb
    exact one_good (hR.gb x hx)
  · intro b hb
    obtain ⟨x, hx, rfl⟩ := List.mem_map.1 hb
    exact hR.hv x hx
theorem right_nilW (W : List Vip) (B : List Back) (hR : Right W B) : Right W [] ∧ Right [] [] :=
  ⟨⟨hR.lv, by decide, hR.sv, hR.pv, hR.gv, .nil, (fun b hb => (by cases hb)), fun b hb => (by cases hb)⟩, ⟨by decide, by decide, .nil, .nil, fun b hb => (by cases hb), .nil, fun b hb => (by cases hb), fun b hb => (by cases hb)⟩⟩
def plainB (b : Back) : Back := { b with up := false }
theorem chg_one {y : Back} (h : y.life = 2) : chg 1 0 (plainB (oneB y)) = plainB y := by
  obtain ⟨a, b, c, d, l, f⟩ := y
  replace h : l = 2 := h
  subst h
  rfl
theorem drain_run {W : List Vip} {B : List Back} (hS : Right W B) (hR : Right W (B.map fun b => plainB (oneB b))) : runF W (B.map fun b => plainB (oneB b)) (B.flatMap dOrds) = some (W, B.map plainB) := by
  obtain ⟨V2, Bn, h1, h2, h3, h4⟩ := run_flat (f := dOrds) (I := fun P Vk Bk => Vk = W ∧ ∀ u, u ∈ Bk ↔ (∃ y ∈ B, (∀ z ∈ P, z.id ≠ y.id) ∧ u = plainB (oneB y)) ∨ ∃ y ∈ P, u = plainB y) B (fun P y R Vk Bk hL hRk hI => by
    obtain ⟨rfl, hI⟩ := hI
    have hyB : y ∈ B := by rw [hL]; exact mem_parts.2 (.inr (.inl rfl))
    have hnP := notin_of (key := Back.id) (hL ▸ hS.sb)
    have hin : plainB (oneB y) ∈ Bk := (hI _).2 (.inl ⟨y, hyB, hnP, rfl⟩)
    have hgood := hS.gb y hyB
    have hlife := life_good hgood
    have key : ∃ Bn, runF Vk Bk (dOrds y) = some (Vk, Bn) ∧ Right Vk Bn ∧ ∀ u, u ∈ Bn ↔ (u ∈ Bk ∧ u.id ≠ y.id) ∨ u = plainB y := by
      rcases hlife with h | h
      · refine ⟨Bk, by unfold dOrds; rw [decide_eq_false (by omega : ¬ y.life = 2)]; rfl, hRk, fun u => ?_⟩
        have he : plainB (oneB y) = plainB y := by unfold plainB oneB; rw [← h]
        constructor
        · intro hu
          by_cases hid : u.id = y.id
          · exact .inr ((key_inj (key := Back.id) hRk.sb hu hin hid).trans he)
          · exact .inl ⟨hu, hid⟩
        · rintro (hu | rfl)
          · exact hu.1
          · rw [← he]; exact hin
      · obtain ⟨Bn, e1, e2⟩ := ap_change (o := dOrd y) hRk hin rfl (.inl rfl)
        refine ⟨Bn, by unfold dOrds; rw [decide_eq_true h]; exact run_one e1, right_ap hRk e1, fun u => ?_⟩
        rw [e2, if_pos (show (dOrd y).op = 4 from rfl), show chg 1 0 (plainB (oneB y)) = plainB y from chg_one h]
        exact Iff.rfl
    obtain ⟨Bn, e1, e2, e3⟩ := key
    refine ⟨Vk, Bn, e1, e2, rfl, fun u => ?_⟩
    rw [e3, hI]
    constructor
    · rintro (⟨⟨x, hx, h6, rfl⟩ | ⟨z, hz, rfl⟩, hne⟩ | h)
      · refine .inl ⟨x, hx, fun z hz => ?_, rfl⟩
        rcases List.mem_append.1 hz with hz | hz
        · exact h6 z hz
        · rw [List.mem_singleton.1 hz]; exact fun he => hne he.symm
      · exact .inr ⟨z, List.mem_append_left _ hz, rfl⟩
      · exact .inr ⟨y, List.mem_append_right _ (List.mem_singleton.2 rfl), h⟩
    · rintro (⟨x, hx, h6, rfl⟩ | ⟨z, hz, rfl⟩)
      · exact .inl ⟨.inl ⟨x, hx, fun z hz => h6 z (List.mem_append_left _ hz), rfl⟩, fun he => h6 y (List.mem_append_right _ (List.mem_singleton.2 rfl)) he.symm⟩
      · rcases List.mem_append.1 hz with hz | hz
        · exact .inl ⟨.inr ⟨z, hz, rfl⟩, hnP z hz⟩
        · rw [List.mem_singleton.1 hz]; exact .inr rfl) B [] W (B.map fun b => plainB (oneB b)) rfl hR ⟨rfl, fun u => by
      rw [List.mem_map]
      constructor
      · rintro ⟨y, hy, rfl⟩; exact .inl ⟨y, hy, fun z hz => (by cases hz), rfl⟩
      · rintro (⟨y, hy, _, rfl⟩ | ⟨z, hz, _⟩)
        · exact ⟨y, hy, rfl⟩
        · cases hz⟩
  subst h3
  have e : Bn = B.map plainB := by
    refine sorted_ext (key := Back.id) h2.sb ?_ fun u => ?_
    · rw [List.pairwise_map]
      exact hS.sb
    · rw [h4, List.mem_map]
      constructor
      · rintro (⟨x, hx, h7, _⟩ | ⟨y, hy, rfl⟩)
        · exact absurd rfl (h7 x hx)
        · exact ⟨y, hy, rfl⟩
      · rintro ⟨y, hy, rfl⟩
        exact .inr ⟨y, hy, rfl⟩
  rw [← e]
  exact h1
theorem ords_run {V : List Vip} {B : List Back} (hR : Right V B) : runF [] [] (ordsW V B) = some (V, B.map plainB) := by
  obtain ⟨hR0, hR00⟩ := right_nilW V B hR
  obtain ⟨p3, _⟩ := phase3 (V := []) (V1 := []) (B2 := []) hR00 hR fun u => ⟨fun h => (by cases h), fun h => (by obtain ⟨_, v, hv, _⟩ := h; cases hv)⟩
  obtain ⟨p4, q4⟩ := phase4 (B := []) (B2 := []) .nil hR0 (right_one hR) fun u => ⟨fun h => (by cases h), fun h => (by cases h.1)⟩
  have e3 : V.flatMap (adds1 []) = V.map vOrd := by
    rw [List.map_eq_flatMap]
    congr 1
  have e4 : (B.map oneB).flatMap (backs1 [] (B.map oneB)) = B.map bOrd := by
    rw [List.flatMap_map, List.map_eq_flatMap (f := bOrd)]
    congr 1
  have e5 : (B.map oneB).map (fin1 [] (B.map oneB)) = B.map fun b => plainB (oneB b) := by
    rw [List.map_map]
    rfl
  rw [e3] at p3
  rw [e4, e5] at p4
  rw [e5] at q4
  unfold ordsW
  rw [run_append, run_append, p3]
  show (match (match some (V, ([] : List Back)) with
    | some (V', B') => runF V' B' (B.map bOrd)
    | none => none) with
    | some (V', B') => runF V' B' (B.flatMap dOrds)
    | none => none) = _
  show (match runF V [] (B.map bOrd) with
    | some (V', B') => runF V' B' (B.flatMap dOrds)
    | none => none) = _
  rw [p4]
  exact drain_run hR q4
theorem textW_short {V : List Vip} {B : List Back} (hR : Right V B) (h : WOk V B) : (textW V B).length ≤ 4000 := by
  have h1 := vTx_len h V.length
  have h2 := bTx_len h B.length
  rw [List.take_length] at h1 h2
  have h3 : (dTxs B).length ≤ 12 * B.length := flat_le fun b hb => by
    unfold dTx; split
    · obtain ⟨_, h4, h5⟩ := h.d b hb
      unfold lnO
      rw [h4]
      have h6 : (dgI b.id).length ≤ 5 := dgs_len 4 _ (by omega)
      simp
      omega
    · simp
  have h7 := hR.lv
  have h8 := hR.lb
  have e : (textW V B).length = (vTx V).length + (bTx B).length + (dTxs B).length := by unfold textW; rw [List.length_append, List.length_append]
  omega
theorem load_write {V : List Vip} {B : List Back} (hR : Right V B) (wV : ∀ v ∈ V, v.ok) (wB : ∀ b ∈ B, b.ok) : loadT (textW V B) = ((V, B.map plainB), 0) := by
  have hW := wok hR wV wB
  have hm := ordsW_may hR wV wB
  have hp : parseT (textW V B) = (numF 0 (ordsW V B), 0, 0) := by
    rw [parseT_fit (by have := textW_short hR hW; omega), textW_ords, spl_lines _ fun o ho => (hm o ho).1, pLines_all _ 0 [] hm]
    rfl
  unfold loadT
  rw [hp]
  exact load_runW _ 0 _ _ _ _ (ords_run hR)
end Go.Proofs.YtooaeccmkgockaaGreatDoor.V
namespace Go.Proofs.YtooaeccmkgockaaGreatDoor.V
open Go.RowKit
attribute [local irreducible] Fn FnN OpVC

theorem writeT_byt {V : List Vip} {B : List Back} (wV : ∀ v ∈ V, v.ok) (wB : ∀ b ∈ B, b.ok) (h : mayB V B = true) : Byt (writeT V B) ∧ (writeT V B).length ≤ 4000 := by
  have hR := (right_iff (B := B) wV).1 h
  have hW := wok hR wV wB
  unfold writeT
  rw [h]
  exact ⟨(textW_ok hW).1, textW_short hR hW⟩
set_option maxHeartbeats 4000000 in
theorem planBack_fn (L : List Deed) (hL : ∀ x, x ∈ L → x.ok) (V : List Vip) (B : List Back) (wV : ∀ v ∈ V, v.ok) (wB : ∀ b ∈ B, b.ok) : Fn Tryz.prog 5 [rowsDeed L, farmD V B] fun d => d = boolD true := by
  refine fnOf [(8, [0, 2, 1, 3, 4, 5, 6, 7, 8])] Tryz.func5 rfl (by kernel_rfl) (Nat.le_of_ble_eq_true rfl) ?_
  have hm := made_fn L hL
  have hG := made_good hL
  generalize hmv : (made L).1 = V0 at *
  generalize hmb : (made L).2 = B0 at *
  have hR := hG.right
  have hlv := hR.lv
  have hlb := hR.lb
  have hmay : mayB V0 B0 = true := (right_iff (B := B0) hG.v).2 hR
  have hw := write_fn V0 B0 (by omega) (by omega) hG.v hG.b
  have hrw := rwrite_fn V0 B0 (by omega) (by omega) hG.v hG.b
  obtain ⟨hb1, hb2⟩ := writeT_byt hG.v hG.b hmay
  have hl := load_fn (writeT V0 B0) hb1 (by omega)
  have ht : writeT V0 B0 = textW V0 B0 := by unfold writeT; rw [hmay]
  have hld : loadT (writeT V0 B0) = ((V0, B0.map plainB), 0) := by rw [ht]; exact load_write hR hG.v hG.b
  rw [hld, show B0.map plainB = B0.map plain from rfl] at hl
  have hp := plainly_fn V0 B0 (by omega)
  have hs := same_fn V0 (B0.map plain) (by omega) (by rw [List.length_map]; omega)
  conv => whnf
  refine CallVC.pure hm rfl ?_
  rintro _ rfl
  conv => whnf
  refine CallVC.pure hw rfl ?_
  rintro _ rfl
  conv => whnf
  refine CallVC.pure hl rfl ?_
  rintro _ rfl
  conv => whnf
  refine CallVC.pure hrw rfl ?_
  rintro _ rfl
  conv => whnf
  rw [show ((strB (writeT V0 B0)).toList == (strB (writeT V0 B0)).toList) = true from beq_self_eq_true _]
  conv => whnf
  refine CallVC.pure hp rfl ?_
  rintro _ rfl
  conv => whnf
  refine CallVC.pure hs rfl ?_
  rintro _ rfl
  conv => whnf
  refine Fork.intro (fun g => ?_) (fun g => ?_)
  · conv => whnf
    refine CallVC.pure livesL_fn rfl ?_
    rintro _ rfl
    conv => whnf
  have g := of_decide_eq_false g
  conv => whnf
  refine Fork.intro (fun g2 => ?_) (fun g2 => ?_)
  · conv => whnf
    refine CallVC.pure livesL_fn rfl ?_
    rintro _ rfl
    conv => whnf
  have g2 := of_decide_eq_false g2
  have hw2 := write_fn V B (by omega) (by omega) wV wB
  have hrw2 := rwrite_fn V B (by omega) (by omega) wV wB
  conv => whnf
  refine CallVC.pure hw2 rfl ?_
  rintro _ rfl
  conv => whnf
  refine CallVC.pure hrw2 rfl ?_
  rintro _ rfl
  conv => whnf
  rw [show ((strB (writeT V B)).toList == (strB (writeT V B)).toList) = true from beq_self_eq_true _]
  conv => whnf
  refine CallVC.pure livesL_fn rfl ?_
  rintro _ rfl
  conv => whnf
end Go.Proofs.YtooaeccmkgockaaGreatDoor.V
