/-
  A track: turning. Conditions: ticks not too great, not too many entries.
  Rows of entries thinned: slices.DeleteFunc. Conditions: rows not too long. (Printed by gen_ki.py.)
  A track: all, those of a backend, looked at as a cluster. Conditions: the track stands right.
  The law's own example; its rows: where a flow stands, a row with a flow, without it. Conditions: rows not too long.
-/
import Derived.Test.YtcbpdjikdohegaaGreatK16
namespace Go.Proofs.YtcbpdjikdohegaaGreat.V
open Go.RowKit

section
variable {lo hi : Int} {N : Nat} {L : List Sl} {n : Nat} {B : List En} {Fr : List Int} {now : Int} {W : List Al} {S0 S : List En}
theorem TInv.slot (h : TInv lo hi N L n B Fr now W S0 S) {j : Nat} {y : En} (hy : S0[j]? = some y) : ∃ q m, fnd L y.f (homeN lo hi L.length y.f) L.length 0 = (q, m, true) ∧ enS (at_ L q) = y ∧ S0.findIdx? (isFl y.f) = some j ∧ S[j]? = some (bAt B y.at_) := by
  obtain ⟨z, hz, hze⟩ := List.mem_map.1 (h.rel.perm.mem_iff.1 (List.mem_of_getElem? hy))
  obtain ⟨q, hq1, hq2, rfl⟩ := mem_ents.1 hz
  obtain ⟨m, hm, _⟩ := h.rel.ok.ok.find_in hq1 hq2
  have hf : (at_ L q).f = y.f := by rw [← hze]; rfl
  rw [hf] at hm
  obtain ⟨k, k1, k2⟩ := h.rel.find_is hm
  rw [hze] at k2
  obtain rfl := h.inj hy k2 rfl
  exact ⟨q, m, hm, hze, k1, by rw [h.all, List.getElem?_map, hy]; rfl⟩
theorem TInv.alarm {a : Al} {r : List Al} (h : TInv lo hi N L n B Fr now (a :: r) S0 S) : ∃ (j : Nat) (y : En), S0[j]? = some y ∧ y.at_ = a.id ∧ (bAt B a.id).at_ = a.at_ ∧ outOf a.id (a :: r) = r := by
  obtain ⟨y, hy, hya⟩ := List.mem_map.1 (h.al.mem_iff.1 (.head _))
  obtain ⟨j, hj⟩ := List.mem_iff_getElem?.1 hy
  have e1 : y.at_ = a.id := by rw [← hya]
  refine ⟨j, y, hj, e1, by rw [← e1, ← hya], ?_⟩
  have hnd : ((a :: r).map (·.id)).Nodup := by
    have h1 := (h.al.map (·.id)).nodup_iff.2
    refine h1 ?_
    rw [List.map_map]
    exact (List.nodup_append.1 h.nodup).1
  have hno := (List.nodup_cons.1 hnd).1
  unfold outOf
  rw [List.filter_cons_of_neg (by unfold isId; simp)]
  exact List.filter_eq_self.2 fun x hx => by
    have : x.id ≠ a.id := fun e => hno (List.mem_map.2 ⟨x, hx, e⟩)
    unfold isId; simp [this]
end

structure TL where
  k : Nat
  L : List Sl
  n : Nat
  B : List En
  g : Nat
  p : Nat
  m : Nat
  c : Nat
  cur : List Value
  Fr : List Int
  S0 : List En
  R : List En
  out : List En
  S1 : Nat → Prop
  S3 : Nat → Prop
structure TLI (lo hi : Int) (N : Nat) (now now' : Int) (D Wr : List Al) (S : List En) (t : TL) : Prop where
  k : t.k ≤ D.length
  T : TInv lo hi N t.L t.n t.B t.Fr now (D.drop t.k ++ Wr) t.S0 t.R
  fr : FreeOk t.cur t.p t.m t.c t.Fr
  pm : (t.out ++ t.R).Perm S
  sb : t.R.Sublist S
  le : ∀ x, x ∈ t.out → x.at_ ≤ now'
  len : t.out.length = t.k

attribute [local irreducible] Fn FnN OpVC Ob RowFn ObS NewS
def turnN (n : Int) : Nat := (clampN n).toNat
theorem turnN_in (n : Int) : (turnN n : Int) = clampN n ∧ 0 ≤ clampN n ∧ clampN n ≤ 4095 := by
  unfold turnN clampN; omega

theorem tturn_obs (lo hi : Int) (N : Nat) (S : List En) (now n0 : Int) (hn : now ≤ 1099511400000) (hS : S.length ≤ 90) :
    ObS Tryz.prog 14 (trA lo hi N S now) [intD n0] fun d A' => d = rowsN (dueS S now (turnN n0)) ∧ A' = trA lo hi N (S.filter fun x => decide (now + turnN n0 < x.at_)) (now + turnN n0) := by
  refine obsOfC [] Tryz.func14 rfl (by kernel_rfl) (Nat.le_of_ble_eq_true rfl) ?_
  rintro _ nx ⟨L, n, B, g, p, m, c, cur, W, S1, S3, S4, S0, Fr, rfl, hnx, hT, hFr, hn0⟩
  refine ⟨[], [], ⟨enumD (.loc 0 0 :: [intD n0]) 0, trH lo hi L n B g p m c cur now W S1 S3 S4, 5, ([0], 1)⟩, ?_, ?_⟩
  · repeat' (first | exact trivial | exact .inl (DLe.refl _) | exact .inl (DLe.nil _ _) | (refine .inr ⟨rfl, _, ?_, rfl⟩; rfl) | exact rfl | exact Nat.zero_le _ | constructor)
  obtain ⟨l1, l2, l3, l4, l5, l6⟩ := hT.free_len
  obtain ⟨c0, c1, c2⟩ := turnN_in n0
  have hturn := wturn_obs now W n0 (by omega) (by omega) fun a ha => by
    obtain ⟨y, hy, rfl⟩ := List.mem_map.1 (hT.al.mem_iff.1 ha)
    have := hT.lim (bAt B y.at_) (by rw [hT.all]; exact List.mem_map.2 ⟨y, hy, rfl⟩)
    show (bAt B y.at_).at_ ≤ _
    omega
  rw [← c0] at hturn
  have hspl : W.takeWhile (upTo (now + (turnN n0 : Int))) ++ W.dropWhile (upTo (now + (turnN n0 : Int))) = W := List.takeWhile_append_dropWhile
  have hDle : ∀ a, a ∈ W.takeWhile (upTo (now + (turnN n0 : Int))) → a.at_ ≤ now + turnN n0 := fun a ha => by
    have := List.all_eq_true.1 (List.all_takeWhile (p := upTo (now + (turnN n0 : Int))) (l := W)) a ha
    exact of_decide_eq_true this
  have hsort := dueS_sorted (now := now) hT.so hT.flok (turnN n0)
  have hfl := hT.flok
  have hdp := dueS_perm (now := now) (fun x hx => (hT.lim x hx).1) (turnN n0)
  generalize turnN n0 = tc at *
  generalize hnow : now + (tc : Int) = now' at *
  generalize W.takeWhile (upTo now') = D at *
  generalize W.dropWhile (upTo now') = Wr at *
  have hDl : D.length ≤ 90 := by have := congrArg List.length hspl; rw [List.length_append] at this; omega
  conv => whnf
  refine CallVC.obs hturn rfl rfl ?_
  rintro _ _ S4' ⟨rfl, rfl, hWr⟩
  conv => whnf
  refine ⟨TL, fun t => ⟨[(18, intD t.k), (17, intD D.length), (16, rowsA D), (5, .grow 5), (0, .loc 0 0)], (5, .grow En 39 13 enD t.out) :: trH lo hi t.L t.n t.B t.g t.p t.m t.c t.cur now' Wr t.S1 t.S3 S4', 6, ([0], 1)⟩, TLI lo hi N now now' D Wr S, fun t => D.length - t.k,
    ⟨⟨0, L, n, B, g, p, m, c, cur, Fr, S0, S, [], S1, S3⟩, [(5, 70)], [5], ?_, ⟨Nat.zero_le _, by rw [List.drop_zero, hspl]; exact hT, hFr, .refl _, .refl _, (fun _ h => by cases h), rfl⟩⟩, ?_⟩
  · repeat' (first | exact trivial | exact .inl (DLe.refl _) | exact .inl (DLe.nil _ _) | (refine .inr ⟨rfl, _, ?_, rfl⟩; rfl) | exact rfl | exact Nat.zero_le _ | constructor)
  rintro ⟨k, L, n, B, g, p, m, c, cur, Fr, S0, R, out, S1, S3⟩ ⟨hk, hT, hFr, hpm, hsb, hle, hol⟩
  dsimp only at hk hT hFr hpm hsb hle hol
  obtain ⟨l1, l2, l3, l4, l5, l6⟩ := hT.free_len
  have hBl := hT.len
  conv => whnf
  refine Fork.intro (fun g1 => ?_) (fun g1 => ?_)
  · have hlt : (k : Int) < D.length := of_decide_eq_true g1
    obtain ⟨a, ha⟩ : ∃ a, D[k]? = some a := ⟨D[k]'(by omega), List.getElem?_eq_getElem _⟩
    have hdk : D.drop k = a :: D.drop (k + 1) := by
      obtain ⟨h1, h2⟩ := List.getElem?_eq_some_iff.1 ha
      rw [← h2]; exact List.drop_eq_getElem_cons h1
    rw [hdk, List.cons_append] at hT
    obtain ⟨j, y, hj, hya, hat, hout⟩ := hT.alarm
    obtain ⟨q, m0, hq, hqe, hfi, hRj⟩ := hT.slot hj
    have hid := hT.at_in (List.mem_of_getElem? hj)
    have hown := hT.own _ (List.mem_of_getElem? hj)
    have hyf := hT.rel.flok y (List.mem_of_getElem? hj)
    have hdrop := drop_obs lo hi L n hT.rel.ok hyf
    rw [hq] at hdrop
    have hemp := fun (L' : List Sl) (hL : SRel lo hi N L' (n - 1) (S0.eraseIdx j)) => hT.empty hj hL en0 (.refl _)
    have hsr := fun L' h1 h2 h3 => hT.rel.drop (L' := L') hq hfi h1 h2 h3
    have hwk : IntKind.i64.wrap ((k : Int) + 1) = ((k + 1 : Nat) : Int) := wrap_next (show k < 100 by omega) (by omega)
    rw [hya] at hid hown hRj hemp
    rw [hout] at hemp
    rw [← hown] at hdrop
    have hBv := bAt_get (B := B) hid.1 (by rw [hBl]; exact hid.2)
    have hm := hFr.len
    have hidl : a.id.toNat < B.length := by omega
    have hTLI : ∀ (L' : List Sl) (g p m c : Nat) (cur : List Value) (S1' S3' : Nat → Prop), SRel lo hi N L' (n - 1) (S0.eraseIdx j) → FreeOk cur p m c (Fr ++ [a.id]) → TLI lo hi N now now' D Wr S ⟨k + 1, L', n - 1, B.set a.id.toNat en0, g, p, m, c, cur, Fr ++ [a.id], S0.eraseIdx j, R.eraseIdx j, out ++ [bAt B a.id], S1', S3'⟩ := fun L' g p m c cur S1' S3' h1 h2 => by
      refine ⟨by show k + 1 ≤ _; omega, hemp L' h1, h2, ?_, (List.eraseIdx_sublist _ _).trans hsb, fun x hx => ?_, by show (out ++ [_]).length = k + 1; rw [List.length_append, hol]; rfl⟩
      · show ((out ++ [bAt B a.id]) ++ R.eraseIdx j).Perm S
        rw [List.append_assoc]
        exact ((erase_perm hRj).append_left out).trans hpm
      · rcases List.mem_append.1 hx with hx | hx
        · exact hle x hx
        · obtain rfl : x = bAt B a.id := by simpa using hx
          rw [hat]
          exact hDle a (List.mem_of_getElem? ha)
    conv => whnf
    refine ⟨rfl, ⟨by omega, hlt⟩, each_one ha ?_⟩
    conv => whnf
    refine ⟨rfl, ⟨hid.1, by rw [hBl]; exact hid.2⟩, ?_⟩
    conv => whnf
    refine ⟨rfl, hidl, fun x hx => ?_⟩
    rw [hBv] at hx
    injection hx with hx
    subst hx
    conv => whnf
    (refine ⟨Nat.le_of_ble_eq_true rfl, ?_⟩; conv => whnf)
    refine ⟨En, enD, out ++ [bAt B a.id], (by rw [List.map_append]; rfl), fun _ => rfl, by simp only [List.length_append, List.length_cons, List.length_nil]; omega, by simp only [List.length_append, List.length_cons, List.length_nil]; omega, rfl, ?_⟩
    conv => whnf
    refine goIn [(0, [1000])] Tryz.func34 rfl (by kernel_rfl) (Nat.le_of_ble_eq_true rfl) ?_
    conv => whnf
    refine ⟨{q : (Nat → Prop) × List Sl // SRel lo hi N q.2 (n - 1) (S0.eraseIdx j)}, fun q => ⟨[(1, intD a.id), (0, .loc 0 0)], (7, .grow En 39 13 enD (out ++ [bAt B a.id])) :: trH lo hi q.1.2 (n - 1) B g p m c cur now' Wr q.1.1 S3 S4', 8, (upto 8 0, 8)⟩, ?_, ?_⟩
    · conv => whnf
      refine ⟨?_, ?_, trivial⟩
      · conv => whnf
        refine ⟨?_, trivial⟩
        conv => whnf
        refine ⟨rfl, ⟨hid.1, by rw [hBl]; exact hid.2⟩, ?_⟩
        conv => whnf
        refine ⟨?_, trivial⟩
        conv => whnf
        refine ⟨rfl, hidl, fun x hx => ?_⟩
        rw [hBv] at hx
        injection hx with hx
        subst hx
        conv => whnf
        refine ⟨?_, trivial⟩
        conv => whnf
        refine CallVC.obs hdrop rfl rfl ?_
        rintro _ _ S1' ⟨rfl, L', rfl, h1, h2, h3⟩
        conv => whnf
        refine ⟨⟨(S1', L'), hsr L' h1 h2 h3⟩, [], [], ?_⟩
        repeat' (first | exact trivial | exact .inl (DLe.refl _) | exact .inl (DLe.nil _ _) | (refine .inr ⟨rfl, _, ?_, rfl⟩; rfl) | exact rfl | exact Nat.zero_le _ | constructor)
      · conv => whnf
        refine ⟨rfl, ⟨hid.1, by rw [hBl]; exact hid.2⟩, ?_⟩
        conv => whnf
        refine ⟨?_, ?_, trivial⟩
        · conv => whnf
          refine ⟨?_, trivial⟩
          conv => whnf
          refine ⟨rfl, hidl, fun x hx => ?_⟩
          rw [hBv] at hx
          injection hx with hx
          subst hx
          conv => whnf
          refine ⟨?_, trivial⟩
          conv => whnf
          refine CallVC.obs hdrop rfl rfl ?_
          rintro _ _ S1' ⟨rfl, L', rfl, h1, h2, h3⟩
          conv => whnf
          refine ⟨⟨(S1', L'), hsr L' h1 h2 h3⟩, [], [], ?_⟩
          repeat' (first | exact trivial | exact .inl (DLe.refl _) | exact .inl (DLe.nil _ _) | (refine .inr ⟨rfl, _, ?_, rfl⟩; rfl) | exact rfl | exact Nat.zero_le _ | constructor)
        · conv => whnf
          refine ⟨rfl, hidl, fun x hx => ?_⟩
          rw [hBv] at hx
          injection hx with hx
          subst hx
          conv => whnf
          refine ⟨?_, trivial⟩
          conv => whnf
          refine ⟨?_, trivial⟩
          conv => whnf
          refine CallVC.obs hdrop rfl rfl ?_
          rintro _ _ S1' ⟨rfl, L', rfl, h1, h2, h3⟩
          conv => whnf
          refine ⟨⟨(S1', L'), hsr L' h1 h2 h3⟩, [], [], ?_⟩
          repeat' (first | exact trivial | exact .inl (DLe.refl _) | exact .inl (DLe.nil _ _) | (refine .inr ⟨rfl, _, ?_, rfl⟩; rfl) | exact rfl | exact Nat.zero_le _ | constructor)
    rintro ⟨⟨S1', L'⟩, hL⟩
    dsimp only at hL
    conv => whnf
    refine ⟨rfl, ⟨hid.1, by rw [hBl]; exact hid.2⟩, ?_⟩
    conv => whnf
    refine ⟨rfl, hidl, fun x hx => ?_⟩
    conv => whnf
    refine ⟨rfl, en0, rfl, ?_⟩
    conv => whnf
    (refine ⟨Nat.le_of_ble_eq_true rfl, ?_⟩; conv => whnf)
    refine ov_append (el := 3) (ti := ⟨.int .i64, 1, 8, [.int .i64 0]⟩) (id := 3) (g := g) (p := p) (n := m) (c := c) (cur := cur) (v := .int .i64 a.id) ttH rfl rfl rfl rfl rfl (by decide) rfl rfl rfl rfl hFr.fit hFr.le (by omega) (fun hin => ?_) (fun hou g' c' S' rest hc' hr => ?_)
    · conv => whnf
      rw [hwk]
      refine ⟨⟨k + 1, L', n - 1, B.set a.id.toNat en0, g, p, m + 1, c, cur.set (p + m) (.int .i64 a.id), Fr ++ [a.id], S0.eraseIdx j, R.eraseIdx j, out ++ [bAt B a.id], S1', S3⟩, [(5, 7)], [], ?_, hTLI L' g p _ _ _ S1' S3 hL (hFr.push_in hin a.id), by show D.length - (k + 1) < D.length - k; omega⟩
      repeat' (first | exact trivial | exact .inl (DLe.refl _) | exact .inl (DLe.nil _ _) | (refine .inr ⟨rfl, _, ?_, rfl⟩; rfl) | exact rfl | exact Nat.zero_le _ | constructor)
    · subst hou
      conv => whnf
      rw [hwk]
      refine ⟨⟨k + 1, L', n - 1, B.set a.id.toNat en0, g', 0, c + 1, c', (cur.drop p).take c ++ .int .i64 a.id :: rest, Fr ++ [a.id], S0.eraseIdx j, R.eraseIdx j, out ++ [bAt B a.id], S1', S'⟩, [(5, 7), (3, 8)], [], ?_, hTLI L' g' 0 _ _ _ S1' S' hL (hFr.push_out hc' a.id hr), by show D.length - (k + 1) < D.length - k; omega⟩
      repeat' (first | exact trivial | exact .inl (DLe.refl _) | exact .inl (DLe.nil _ _) | (refine .inr ⟨rfl, _, ?_, rfl⟩; rfl) | exact rfl | exact Nat.zero_le _ | constructor)
  · have hge : ¬ (k : Int) < D.length := of_decide_eq_false g1
    obtain rfl : k = D.length := by omega
    rw [List.drop_length, List.nil_append] at hT
    have hR : ∀ x, x ∈ R → now' < x.at_ := fun x hx => by
      rw [hT.all] at hx
      obtain ⟨y, hy, rfl⟩ := List.mem_map.1 hx
      exact hWr _ (hT.al.mem_iff.2 (List.mem_map.2 ⟨y, hy, rfl⟩))
    obtain ⟨r1, r2⟩ := left_of hpm hsb hle hR
    rw [← r1]
    have hT2 : TInv lo hi N L n B Fr now' Wr S0 R := ⟨hT.rel, hT.len, hT.all, hT.num, hT.own, hT.al, fun x hx => ⟨hR x hx, by have := (hT.lim x hx).2; omega⟩⟩
    have hol2 : out.length ≤ 90 := by omega
    conv => whnf
    refine sortE_vc (key := kK) (enters_of Tryz.func37 (by kernel_rfl) rfl) turnCmp_fn rfl (fun x hx => hfl x (hpm.mem_iff.1 (List.mem_append_left _ hx))) (show out.length ≤ 1000000 by omega) hsort (hdp.trans r2.symm) ?_
    conv => whnf
    refine ⟨[], [], .grow 5, trH lo hi L n B g p m c cur now' Wr S1 S3 S4', [(5, .grow En 39 13 enD (dueS S now tc))], 6, ?_, rfl, trF lo hi N R now', ⟨_, _, _, g, p, _, _, _, _, S1, S3, S4', _, _, rfl, by decide, hT2, hFr, by omega⟩, rfl, rfl⟩
    repeat' (first | exact trivial | exact .inl (DLe.refl _) | exact .inl (DLe.nil _ _) | (refine .inr ⟨rfl, _, ?_, rfl⟩; rfl) | exact rfl | exact Nat.zero_le _ | constructor)
end Go.Proofs.YtcbpdjikdohegaaGreat.V
namespace Go.Proofs.YtcbpdjikdohegaaGreat.V
open Go.RowKit
attribute [local irreducible] Fn FnN OpVC Ob RowFn ObS NewS

def delP (n : Int) (x : En) : Bool := match !decide (x.be = n) with
  | true => true
  | false => x.px
def keptOf (n : Int) (L : List En) : List En := L.filter fun a => !delP n a
theorem of1_fn (x : En) {n : Int} : Fn Tryz.prog 45 [.agg (enD x), .fp [.v (.int .i64 n)]] fun d => d = boolD (delP n x) := by
  refine fnOf [] Tryz.func45 rfl (by kernel_rfl) (Nat.le_of_ble_eq_true rfl) ?_
  unfold delP
  conv => whnf
  cases h : !decide (x.be = n) with
  | true => conv => whnf
  | false => conv => whnf

theorem indexFuncE_fn (V : List En) {f : FuncId} {c : Value} {p : En → Bool} (hf : ∀ x, x ∈ V → Fn Tryz.prog f [.agg (enD x), .fp [.v c]] fun d => d = boolD (p x)) (hV : V.length ≤ 1000000) :
    Fn Tryz.prog 60 [rowsN V, .fn f [] [.fp [.v c]]] fun d => d = intD (findI p V) := by
  refine fnOf [] Tryz.func60 rfl (by kernel_rfl) (Nat.le_of_ble_eq_true rfl) ?_
  conv => whnf
  refine ⟨Nat, fun k => ⟨[(8, intD k), (7, intD V.length), (0, rowsN V), (1, .fn f [] [.fp [.v c]])], [], 0, ([], 0)⟩,
    fun k => k ≤ V.length ∧ ∀ (j : Nat) u, j < k → V[j]? = some u → p u = false, fun k => V.length - k, ⟨0, [], [], ?_, Nat.zero_le _, fun j u h => by omega⟩, ?_⟩
  · repeat' (first | exact trivial | exact .inl (DLe.refl _) | exact .inl (DLe.nil _ _) | (refine .inr ⟨rfl, _, ?_, rfl⟩; rfl) | exact rfl | exact Nat.zero_le _ | constructor)
  · rintro k ⟨hk, hno⟩
    conv => whnf
    refine Fork.intro (fun h1 => ?_) (fun h1 => ?_)
    · have hlt : (k : Int) < V.length := of_decide_eq_true h1
      conv => whnf
      refine ⟨rfl, ⟨by omega, hlt⟩, fun x hx => ?_⟩
      have hxk : V[k]? = some x := by simpa using hx
      conv => whnf
      refine CallVC.pure (hf x (List.mem_of_getElem? hxk)) rfl ?_
      rintro _ rfl
      conv => whnf
      refine Fork.intro (fun h2 => ?_) (fun h2 => ?_)
      · conv => whnf
        rw [findI_at hxk h2 hno]
      · conv => whnf
        rw [wrap_next (show k < V.length by omega) hV]
        refine ⟨k + 1, [], [], ?_, ⟨by omega, no_next hxk h2 hno⟩, by show V.length - (k + 1) < V.length - k; omega⟩
        repeat' (first | exact trivial | exact .inl (DLe.refl _) | exact .inl (DLe.nil _ _) | (refine .inr ⟨rfl, _, ?_, rfl⟩; rfl) | exact rfl | exact Nat.zero_le _ | constructor)
    · have hge : ¬ (k : Int) < V.length := of_decide_eq_false h1
      conv => whnf
      rw [findI_none (fun j u hj => hno j u (by omega))]

theorem delE_row (B : List En) (n : Int) (hB : B.length ≤ 1000) : RowFn Tryz.prog 44 39 13 enD B [.fn 45 [] [.fp [intD n]]] fun L' => L' = keptOf n B := by
  refine rowOf [] Tryz.func44 rfl (by kernel_rfl) (Nat.le_of_ble_eq_true rfl) ?_
  unfold keptOf
  conv => whnf
  refine CallVC.snap (indexFuncE_fn B (c := .int .i64 n) (fun x _ => of1_fn x) (by omega)) ?_
  rintro _ rfl
  refine ⟨rfl, ?_⟩
  rcases findI_cases (delP n) B with ⟨h2, h3⟩ | ⟨k, x0, h2, h3, h4, h5⟩
  · rw [h2]
    conv => whnf
    refine ⟨rfl, rfl, B, rfl, ?_⟩
    exact (List.filter_eq_self.2 fun x hx => by simp [h3 x hx]).symm
  · rw [h2]
    have hk : k < B.length := (List.getElem?_eq_some_iff.1 h3).1
    have hpre : (B.take k).filter (fun a => !delP n a) = B.take k := List.filter_eq_self.2 fun x hx => by
      obtain ⟨j, hj, rfl⟩ := List.mem_iff_getElem.1 hx
      rw [List.length_take] at hj
      have := h5 j (B.take k)[j] (by omega) (by rw [List.getElem_take]; exact List.getElem?_eq_getElem (by omega))
      rw [this]; rfl
    have hpre1 : (B.take (k + 1)).filter (fun a => !delP n a) = B.take k := by
      rw [take_snoc h3, List.filter_append, hpre]
      simp [h4]
    clear h2 h4 h5 hpre
    conv => whnf
    rw [wrap_next hk (by omega)]
    refine ⟨Nat × Nat × List En, fun p => ⟨[(6, intD p.2.1), (5, intD p.1), (0, .grow 0), (1, .fn 45 [] [.fp [intD n]])], [(0, .grow En 39 13 enD p.2.2)], 1, ([], 0)⟩,
      fun p => p.1 < p.2.1 ∧ p.2.1 ≤ B.length ∧ p.2.2.length = B.length ∧ p.2.2.take p.1 = (B.take p.2.1).filter (fun a => !delP n a) ∧ ∀ m, p.2.1 ≤ m → p.2.2[m]? = B[m]?, fun p => B.length - p.2.1,
      ⟨(k, k + 1, B), [], [], ?_, Nat.lt_succ_self _, hk, rfl, hpre1.symm, fun _ _ => rfl⟩, ?_⟩
    · repeat' (first | exact trivial | exact .inl (DLe.refl _) | exact .inl (DLe.nil _ _) | (refine .inr ⟨rfl, _, ?_, rfl⟩; rfl) | exact rfl | exact Nat.zero_le _ | constructor)
    · rintro ⟨i, j, L⟩ ⟨hij, hj, hL, hf, hr⟩
      dsimp only at hij hj hL hf hr
      conv => whnf
      rw [hL]
      refine Fork.intro (fun h1 => ?_) (fun h1 => ?_)
      · have hlt : (j : Int) < B.length := of_decide_eq_true h1
        conv => whnf
        refine ⟨rfl, ⟨by show (0 : Int) ≤ j; omega, by show (j : Int) < L.length; omega⟩, ?_⟩
        conv => whnf
        refine ⟨rfl, by show (j : Int).toNat < L.length; omega, fun x hx => ?_⟩
        have hxj : B[j]? = some x := by
          rw [← hr j (Nat.le_refl _)]; simpa using hx
        conv => whnf
        refine CallVC.snap (of1_fn x) ?_
        rintro _ rfl
        refine ⟨rfl, ?_⟩
        conv => whnf
        have hn : ∀ b : Bool, (!delP n x) = b → (B.take (j + 1)).filter (fun a => !delP n a) = L.take i ++ (match b with
            | true => [x]
            | false => []) := fun b hb => by
          rw [take_snoc hxj, List.filter_append, ← hf]
          cases b <;> simp [hb]
        refine Fork.intro (fun h2 => ?_) (fun h2 => ?_)
        · replace h2 : (!delP n x) = true := h2
          conv => whnf
          refine ⟨rfl, ⟨by show (0 : Int) ≤ i; omega, by show (i : Int) < L.length; omega⟩, ?_⟩
          conv => whnf
          refine ⟨rfl, by show (i : Int).toNat < L.length; omega, fun x' hx' => ?_⟩
          conv => whnf
          refine ⟨rfl, x, rfl, ?_⟩
          conv => whnf
          rw [wrap_next (show i < B.length by omega) (by omega), wrap_next (show j < B.length by omega) (by omega)]
          refine ⟨(i + 1, j + 1, L.set i x), [], [], ?_, ⟨Nat.succ_lt_succ hij, by show j + 1 ≤ _; omega, by show (L.set i x).length = _; rw [List.length_set]; exact hL, ?_, fun m hm => ?_⟩, by show B.length - (j + 1) < B.length - j; omega⟩
          · repeat' (first | exact trivial | exact .inl (DLe.refl _) | exact .inl (DLe.nil _ _) | (refine .inr ⟨rfl, _, ?_, rfl⟩; rfl) | exact rfl | exact Nat.zero_le _ | constructor)
          · show (L.set i x).take (i + 1) = _
            rw [hn true h2, take_snoc (x := x) (by rw [List.getElem?_set, if_pos rfl, if_pos (by omega)]), List.take_set, List.set_eq_of_length_le (by rw [List.length_take]; omega)]
          · show (L.set i x)[m]? = _
            have hm : j + 1 ≤ m := hm
            rw [List.getElem?_set, if_neg (by omega)]
            exact hr m (by omega)
        · replace h2 : (!delP n x) = false := h2
          conv => whnf
          rw [wrap_next (show j < B.length by omega) (by omega)]
          refine ⟨(i, j + 1, L), [], [], ?_, ⟨by show i < j + 1; omega, by show j + 1 ≤ _; omega, hL, ?_, fun m hm => hr m (by have hm : j + 1 ≤ m := hm; omega)⟩, by show B.length - (j + 1) < B.length - j; omega⟩
          · repeat' (first | exact trivial | exact .inl (DLe.refl _) | exact .inl (DLe.nil _ _) | (refine .inr ⟨rfl, _, ?_, rfl⟩; rfl) | exact rfl | exact Nat.zero_le _ | constructor)
          · show L.take i = _
            rw [hn false h2, List.append_nil]
      · have hge : ¬ (j : Int) < B.length := of_decide_eq_false h1
        have hjB : B.take j = B := List.take_of_length_le (by omega)
        rw [hjB] at hf
        conv => whnf
        refine ⟨rfl, ⟨by show (0 : Int) ≤ i; omega, by show (i : Int) ≤ L.length; omega, Int.le_refl _⟩, ?_⟩
        conv => whnf
        refine ⟨rfl, rfl, rfl, by decide, by show 0 < ((L.length : Int) - i).toNat; omega, by show (i : Int).toNat + ((L.length : Int) - i).toNat ≤ L.length; omega, en0, rfl, rfl, ?_⟩
        have hMl : (List.take (i : Int).toNat L ++ List.replicate ((L.length : Int) - i).toNat en0 ++ List.drop ((i : Int).toNat + ((L.length : Int) - i).toNat) L).length = L.length := by
          simp; omega
        have hMt : (List.take (i : Int).toNat L ++ List.replicate ((L.length : Int) - i).toNat en0 ++ List.drop ((i : Int).toNat + ((L.length : Int) - i).toNat) L).take i = L.take i := by
          rw [List.append_assoc, List.take_append_of_le_length (by simp; omega), nat_toNat, List.take_take, Nat.min_self]
        generalize hM : (List.take (i : Int).toNat L ++ List.replicate ((L.length : Int) - i).toNat en0 ++ List.drop ((i : Int).toNat + ((L.length : Int) - i).toNat) L) = M at *
        conv => whnf
        refine ⟨rfl, ⟨by omega, by show (i : Int) ≤ M.length; omega⟩, ?_⟩
        conv => whnf
        refine ⟨rfl, rfl, by show i ≤ M.length; omega, L.take i, ?_, hf⟩
        show (M.take i).map enD = _
        rw [hMt]
end Go.Proofs.YtcbpdjikdohegaaGreat.V
namespace Go.Proofs.YtcbpdjikdohegaaGreat.V
open Go.RowKit
attribute [local irreducible] Fn FnN OpVC Ob RowFn ObS NewS

section
variable {lo hi : Int} {N : Nat} {L : List Sl} {n : Nat} {B : List En} {Fr : List Int} {now : Int} {W : List Al} {S0 S : List En}
theorem TInv.take (h : TInv lo hi N L n B Fr now W S0 S) {k : Nat} {x : En} (hx : S0[k]? = some x) : S.take (k + 1) = S.take k ++ [bAt B x.at_] := by
  refine take_snoc ?_
  rw [h.all, List.getElem?_map, hx]; rfl
theorem tall_fn (h : TInv lo hi N L n B Fr now W S0 S) (g p m c : Nat) (now' : Int) (W' : List Al) : FnN Tryz.prog 20 [.fp (trX lo hi L n B g p m c now' W')] fun d => d = rowsN S := by
  refine fnNOf [] Tryz.func20 rfl (by kernel_rfl) (Nat.le_of_ble_eq_true rfl) ?_
  obtain ⟨l1, l2, l3, l4, l5, l6⟩ := h.free_len
  have hall := sl_look (all_fn lo hi L n h.rel.ok S0 h.rel.so h.rel.perm) ⟨_, Tryz.func43, rfl⟩
  have hBl := h.len
  conv => whnf
  refine CallVC.look hall rfl ?_
  rintro _ rfl
  conv => whnf
  refine ⟨Nat, fun k => ⟨[(15, intD k), (14, intD S0.length), (13, rowsN S0), (3, .grow 0), (0, .fp (trX lo hi L n B g p m c now' W'))], [(0, .grow En 39 13 enD (S.take k))], 1, ([], 0)⟩, fun k => k ≤ S0.length, fun k => S0.length - k, ⟨0, [], [0], ?_, Nat.zero_le _⟩, ?_⟩
  · repeat' (first | exact trivial | exact .inl (DLe.refl _) | exact .inl (DLe.nil _ _) | (refine .inr ⟨rfl, _, ?_, rfl⟩; rfl) | exact rfl | exact Nat.zero_le _ | constructor)
  · intro k hk
    replace hk : k ≤ S0.length := hk
    conv => whnf
    refine Fork.intro (fun h1 => ?_) (fun h1 => ?_)
    · have hlt : (k : Int) < S0.length := of_decide_eq_true h1
      obtain ⟨x, hx⟩ : ∃ x, S0[k]? = some x := ⟨S0[k]'(by omega), List.getElem?_eq_getElem _⟩
      have hin := h.at_in (List.mem_of_getElem? hx)
      have hBv := bAt_get (B := B) hin.1 (by rw [hBl]; exact hin.2)
      have htk := h.take hx
      have hl : (S.take k).length ≤ k := by rw [List.length_take]; omega
      conv => whnf
      refine ⟨rfl, ⟨by omega, hlt⟩, each_one hx ?_⟩
      conv => whnf
      refine ⟨rfl, ⟨hin.1, by rw [hBl]; exact hin.2⟩, fun y hy => ?_⟩
      rw [hBv] at hy
      injection hy with hy
      subst hy
      conv => whnf
      (refine ⟨Nat.le_of_ble_eq_true rfl, ?_⟩; conv => whnf)
      refine ⟨En, enD, S.take k ++ [bAt B x.at_], (by rw [List.map_append]; rfl), fun _ => rfl, by simp only [List.length_append, List.length_cons, List.length_nil]; omega, by simp only [List.length_append, List.length_cons, List.length_nil]; omega, rfl, ?_⟩
      rw [← htk]
      conv => whnf
      rw [wrap_next (show k < 300 by omega) (by omega)]
      refine ⟨k + 1, [(0, 2)], [], ?_, by show k + 1 ≤ _; omega, by show S0.length - (k + 1) < S0.length - k; omega⟩
      repeat' (first | exact trivial | exact .inl (DLe.refl _) | exact .inl (DLe.nil _ _) | (refine .inr ⟨rfl, _, ?_, rfl⟩; rfl) | exact rfl | exact Nat.zero_le _ | constructor)
    · have hge : ¬ (k : Int) < S0.length := of_decide_eq_false h1
      rw [show S.take k = S from List.take_of_length_le (by omega)]
      conv => whnf
      exact ⟨fun _ => rfl, rfl⟩

theorem tof_fn (h : TInv lo hi N L n B Fr now W S0 S) (g p m c : Nat) (now' : Int) (W' : List Al) (be : Int) : FnN Tryz.prog 21 [.fp (trX lo hi L n B g p m c now' W'), intD be] fun d => d = rowsN (keptOf be S) := by
  refine fnNOf [] Tryz.func21 rfl (by kernel_rfl) (Nat.le_of_ble_eq_true rfl) ?_
  obtain ⟨l1, l2, l3, l4, l5, l6⟩ := h.free_len
  have hall := sl_look (all_fn lo hi L n h.rel.ok S0 h.rel.so h.rel.perm) ⟨_, Tryz.func43, rfl⟩
  have hBl := h.len
  conv => whnf
  refine goIn [] Tryz.func20 rfl (by kernel_rfl) (Nat.le_of_ble_eq_true rfl) ?_
  conv => whnf
  refine CallVC.look hall rfl ?_
  rintro _ rfl
  conv => whnf
  refine ⟨Nat, fun k => ⟨[(15, intD k), (14, intD S0.length), (13, rowsN S0), (3, .grow 1), (0, .fp (trX lo hi L n B g p m c now' W'))], [(0, .cells 3 [intD be]), (1, .grow En 39 13 enD (S.take k))], 2, (upto 1 0, 1)⟩, fun k => k ≤ S0.length, fun k => S0.length - k, ⟨0, [], [1], ?_, Nat.zero_le _⟩, ?_⟩
  · repeat' (first | exact trivial | exact .inl (DLe.refl _) | exact .inl (DLe.nil _ _) | (refine .inr ⟨rfl, _, ?_, rfl⟩; rfl) | exact rfl | exact Nat.zero_le _ | constructor)
  · intro k hk
    replace hk : k ≤ S0.length := hk
    conv => whnf
    refine Fork.intro (fun h1 => ?_) (fun h1 => ?_)
    · have hlt : (k : Int) < S0.length := of_decide_eq_true h1
      obtain ⟨x, hx⟩ : ∃ x, S0[k]? = some x := ⟨S0[k]'(by omega), List.getElem?_eq_getElem _⟩
      have hin := h.at_in (List.mem_of_getElem? hx)
      have hBv := bAt_get (B := B) hin.1 (by rw [hBl]; exact hin.2)
      have htk := h.take hx
      have hl : (S.take k).length ≤ k := by rw [List.length_take]; omega
      conv => whnf
      refine ⟨rfl, ⟨by omega, hlt⟩, each_one hx ?_⟩
      conv => whnf
      refine ⟨rfl, ⟨hin.1, by rw [hBl]; exact hin.2⟩, fun y hy => ?_⟩
      rw [hBv] at hy
      injection hy with hy
      subst hy
      conv => whnf
      (refine ⟨Nat.le_of_ble_eq_true rfl, ?_⟩; conv => whnf)
      refine ⟨En, enD, S.take k ++ [bAt B x.at_], (by rw [List.map_append]; rfl), fun _ => rfl, by simp only [List.length_append, List.length_cons, List.length_nil]; omega, by simp only [List.length_append, List.length_cons, List.length_nil]; omega, rfl, ?_⟩
      rw [← htk]
      conv => whnf
      rw [wrap_next (show k < 300 by omega) (by omega)]
      refine ⟨k + 1, [(1, 3)], [], ?_, by show k + 1 ≤ _; omega, by show S0.length - (k + 1) < S0.length - k; omega⟩
      repeat' (first | exact trivial | exact .inl (DLe.refl _) | exact .inl (DLe.nil _ _) | (refine .inr ⟨rfl, _, ?_, rfl⟩; rfl) | exact rfl | exact Nat.zero_le _ | constructor)
    · have hge : ¬ (k : Int) < S0.length := of_decide_eq_false h1
      rw [show S.take k = S from List.take_of_length_le (by omega)]
      conv => whnf
      refine CallVC.row (delE_row S be (by omega)) rfl rfl (fun _ => rfl) ?_
      rintro _ rfl
      conv => whnf
      exact ⟨fun _ => rfl, rfl⟩
end

/-! ### As a cluster -/
theorem tr_look {f : FuncId} {lo hi : Int} {N : Nat} {S : List En} {now : Int} {rest : List D} {Q : D → Prop} (hb : hasBody Tryz.prog f)
    (h : ∀ L n B g p m c W S0 Fr, TInv lo hi N L n B Fr now W S0 S → FnN Tryz.prog f (.fp (trX lo hi L n B g p m c now W) :: rest) Q) : FnN Tryz.prog f (.sp (trA lo hi N S now) :: rest) Q :=
  fnN_sp hb fun H nx hH => by
    obtain ⟨L, n, B, g, p, m, c, cur, W, S1, S3, S4, S0, Fr, rfl, _, hT, _, _⟩ := hH
    exact h L n B g p m c W S0 Fr hT
section
variable (lo hi : Int) (N : Nat) (S : List En) (now : Int)
theorem tnow_sp : FnN Tryz.prog 18 [.sp (trA lo hi N S now)] fun d => d = intD now :=
  tr_look ⟨_, Tryz.func18, rfl⟩ fun L n B g p m c W S0 Fr _ => tnow_fn lo hi L n B g p m c now W
theorem tlen_sp : FnN Tryz.prog 19 [.sp (trA lo hi N S now)] fun d => d = intD S.length :=
  tr_look ⟨_, Tryz.func19, rfl⟩ fun L n B g p m c W S0 Fr h => by
    have := tlen_fn lo hi L n B g p m c now W
    obtain ⟨l1, l2, l3, l4, l5, l6⟩ := h.free_len
    rw [show (n : Int) = (S.length : Int) by omega] at this
    exact this
theorem tsize_sp : FnN Tryz.prog 6 [.sp (trA lo hi N S now)] fun d => d = intD N :=
  tr_look ⟨_, Tryz.func6, rfl⟩ fun L n B g p m c W S0 Fr h => by
    have := tsize_fn lo hi L n B g p m c now W
    rw [show (L.length : Int) = (N : Int) by have := h.free_len; omega] at this
    exact this
theorem tall_sp : FnN Tryz.prog 20 [.sp (trA lo hi N S now)] fun d => d = rowsN S :=
  tr_look ⟨_, Tryz.func20, rfl⟩ fun L n B g p m c W S0 Fr h => tall_fn h g p m c now W
theorem tof_sp (be : Int) : FnN Tryz.prog 21 [.sp (trA lo hi N S now), intD be] fun d => d = rowsN (keptOf be S) :=
  tr_look ⟨_, Tryz.func21, rfl⟩ fun L n B g p m c W S0 Fr h => tof_fn h g p m c now W be
end
end Go.Proofs.YtcbpdjikdohegaaGreat.V
namespace Go.Proofs.YtcbpdjikdohegaaGreat.V
open Go.RowKit
attribute [local irreducible] Fn FnN OpVC Ob RowFn ObS NewS

def eL : En := ⟨⟨1, 0, 0, 0, 0⟩, 4, 0, 0, false, false, 0, 0, 0⟩
def eL5 : En := ⟨⟨1, 0, 0, 0, 0⟩, 4, 0, 5, false, false, 0, 0, 0⟩
theorem eL_ok : FlOk eL.f := ⟨⟨by decide, by decide⟩, ⟨by decide, by decide⟩, ⟨by decide, by decide⟩, ⟨by decide, by decide⟩, ⟨by decide, by decide⟩⟩
set_option maxHeartbeats 4000000 in
theorem lives23_fn : Fn Tryz.prog 23 [] fun d => d = boolD true := by
  refine fnOf [] Tryz.func23 rfl (by kernel_rfl) (Nat.le_of_ble_eq_true rfl) ?_
  have e1 : slN 1 = 1 := by decide
  have e2 : newN 0 = 0 := by decide
  have hnew := tnew 0 0 1 0
  rw [e1, e2] at hnew
  have hadd := tadd_obs 0 0 1 [] 0 eL 5 eL_ok (by decide) (by decide)
  have e3 : addS 1 [] 0 eL 5 = (0, [eL5]) := by rfl
  rw [e3] at hadd
  have ht1 := tturn_obs 0 0 1 [eL5] 0 4 (by decide) (by decide)
  have e4 : turnN 4 = 4 := by decide
  have e5 : dueS [eL5] 0 4 = [] := by rfl
  have e6 : ([eL5].filter fun x => decide ((0 : Int) + ((4 : Nat) : Int) < x.at_)) = [eL5] := by rfl
  rw [e4, e5, e6] at ht1
  have hof := tof_sp 0 0 1 [eL5] (0 + ((4 : Nat) : Int)) 4
  have e7 : keptOf 4 [eL5] = [eL5] := by rfl
  rw [e7] at hof
  have ht2 := tturn_obs 0 0 1 [eL5] (0 + ((4 : Nat) : Int)) 1 (by decide) (by decide)
  have e8 : turnN 1 = 1 := by decide
  have e9 : dueS [eL5] (0 + ((4 : Nat) : Int)) 1 = [eL5] := by rfl
  have e10 : ([eL5].filter fun x => decide ((0 : Int) + ((4 : Nat) : Int) + ((1 : Nat) : Int) < x.at_)) = [] := by rfl
  rw [e8, e9, e10] at ht2
  conv => whnf
  refine CallVC.news hnew rfl ?_
  rintro _ F0 rfl
  conv => whnf
  refine CallVC.obs hadd rfl rfl ?_
  rintro _ _ F1 ⟨rfl, rfl⟩
  conv => whnf
  refine CallVC.obs ht1 rfl rfl ?_
  rintro _ _ F2 ⟨rfl, rfl⟩
  conv => whnf
  refine CallVC.look hof rfl ?_
  rintro _ rfl
  conv => whnf
  refine CallVC.obs ht2 rfl rfl ?_
  rintro _ _ F3 ⟨rfl, rfl⟩
  conv => whnf
  refine ⟨rfl, ⟨by decide, by decide⟩, fun x hx => ?_⟩
  obtain rfl : x = eL5 := by injection hx with hx; exact hx.symm
  conv => whnf
  refine ⟨rfl, ⟨by decide, by decide⟩, fun x hx => ?_⟩
  obtain rfl : x = eL5 := by injection hx with hx; exact hx.symm
  conv => whnf
  refine CallVC.look (tlen_sp 0 0 1 [] _) rfl ?_
  rintro _ rfl
  conv => whnf
  rfl

def withS (l : List En) (f : Fl) (t : Int) : List En := l.filter (fun x => !isFl f x) ++ match decide (0 ≤ t) with
  | true => [enP f t]
  | false => []
end Go.Proofs.YtcbpdjikdohegaaGreat.V
