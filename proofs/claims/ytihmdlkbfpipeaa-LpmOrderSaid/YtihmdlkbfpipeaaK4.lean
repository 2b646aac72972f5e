/-
  A net is dropped; what bears nothing is taken away. Conditions: numbers of their types.
  What bears nothing is taken away on the way of a net; a net is dropped. Conditions: numbers of their types.
  A net is dropped. Conditions: numbers of their types.
  The nets at a place and below it. Conditions: numbers of their types.
  All nets of a tree. No condition.
-/
import Derived.Test.YtihmdlkbfpipeaaK3
namespace Go.Proofs.Ytihmdlkbfpipeaa.V
open Go.RowKit
attribute [local irreducible] Fn FnN OpVC ArC

set_option maxHeartbeats 2000000 in
theorem bare_ar {N : List Nat → Option Nat} {V : List Nat → Option Int} {gt : Nat} {len : Int} (h : TriOk N V gt) {p : List Nat} {g : Nat} (hg : N p = some g) : ArC Try.prog 23 [.v (.pointer (some ⟨g, 0, none⟩))] (triA N V gt len) fun d M =>
    M = triA N V gt len ∧ d = boolD (!(V p).isSome && ((N (p ++ [0])).isNone && (N (p ++ [1])).isNone)) := by
  refine arOf [] Try.func23 rfl (by kernel_rfl) (Nat.le_of_ble_eq_true rfl) fun S => ?_
  have hnode := triA_node (len := len) h hg
  conv => whnf
  refine pv_nil rfl ?_
  conv => whnf
  refine pv_field ttH rfl rfl rfl ?_
  conv => whnf
  refine pv_loadA (i := 0) ttH rfl rfl rfl hnode rfl ?_
  cases hv : V p with
  | some x =>
    conv => whnf
    exact .done _ _ rfl rfl ⟨rfl, rfl⟩
  | none =>
    conv => whnf
    refine pv_nil rfl ?_
    conv => whnf
    refine pv_field ttH rfl rfl rfl ?_
    conv => whnf
    refine pv_indexP ttH rfl rfl rfl rfl (by decide) (by decide) ?_
    conv => whnf
    refine pv_loadA (i := 0) (d := kidD (N (p ++ [0]))) ttH rfl rfl rfl hnode rfl ?_
    cases h0 : N (p ++ [0]) with
    | some y =>
      conv => whnf
      refine pv_isNil (b := false) ttH rfl rfl rfl (.inl ⟨rfl, rfl⟩) ?_
      conv => whnf
      exact .done _ _ rfl rfl ⟨rfl, rfl⟩
    | none =>
      conv => whnf
      refine pv_nil rfl ?_
      conv => whnf
      refine pv_field ttH rfl rfl rfl ?_
      conv => whnf
      refine pv_indexP ttH rfl rfl rfl rfl (by decide) (by decide) ?_
      conv => whnf
      refine pv_loadA (i := 0) (d := kidD (N (p ++ [1]))) ttH rfl rfl rfl hnode rfl ?_
      cases h1 : N (p ++ [1]) with
      | some y =>
        conv => whnf
        refine pv_isNil (b := false) ttH rfl rfl rfl (.inl ⟨rfl, rfl⟩) ?_
        conv => whnf
        exact .done _ _ rfl rfl ⟨rfl, rfl⟩
      | none =>
        conv => whnf
        exact .done _ _ rfl rfl ⟨rfl, rfl⟩

def delN (N : List Nat → Option Nat) (q : List Nat) : List Nat → Option Nat := fun p => match decide (p = q) with
  | true => none
  | false => N p
theorem delN_same (N : List Nat → Option Nat) (q : List Nat) : delN N q q = none := by unfold delN; rw [decide_eq_true rfl]
theorem delN_ne (N : List Nat → Option Nat) {p q : List Nat} (h : p ≠ q) : delN N q p = N p := by unfold delN; rw [decide_eq_false h]
theorem delN_some {N : List Nat → Option Nat} {p q : List Nat} {g : Nat} (h : delN N q p = some g) : p ≠ q ∧ N p = some g := by
  by_cases e : p = q
  · rw [e, delN_same] at h; cases h
  · rw [delN_ne _ e] at h; exact ⟨e, h⟩
theorem tri_cut {N : List Nat → Option Nat} {V : List Nat → Option Int} {gt : Nat} (h : TriOk N V gt) {c : List Nat} (hc : c ≠ []) (hV : V c = none) (h0 : N (c ++ [0]) = none) (h1 : N (c ++ [1]) = none) : TriOk (delN N c) V gt := by
  have hs : ∀ {p : List Nat}, delN N c p ≠ none → p ≠ c ∧ N p ≠ none := fun {p} hp => by
    by_cases e : p = c
    · rw [e, delN_same] at hp; exact absurd rfl hp
    · rw [delN_ne _ e] at hp; exact ⟨e, hp⟩
  refine ⟨by rw [delN_ne _ (Ne.symm hc)]; exact h.root, fun p q k hp hq => h.inj p q k (delN_some hp).2 (delN_some hq).2, fun p b hp => ?_, fun p hp => ?_, fun p b hp => h.bin p b (hs hp).2, fun p hp => h.tree p (delN_some hp).2⟩
  · obtain ⟨_, h3⟩ := hs hp
    have hb := h.bin p b h3
    have e : p ≠ c := fun e => by
      subst e
      rcases (by omega : b = 0 ∨ b = 1) with rfl | rfl
      · exact h3 h0
      · exact h3 h1
    rw [delN_ne _ e]
    exact h.up p b h3
  · have e : p ≠ c := fun e => by subst e; exact hp hV
    rw [delN_ne _ e]
    exact h.val p hp
theorem tri_cut_sub {N : List Nat → Option Nat} {V : List Nat → Option Int} {gt : Nat} {len : Int} (h : TriOk N V gt) {p : List Nat} {b g : Nat} (hp : N p = some g) (hb : b < 2) (hok : TriOk (delN N (p ++ [b])) V gt) :
    ∀ k x, triA (delN N (p ++ [b])) V gt len k = some x → ((triA N V gt len).upd g (some (.cells 45 ((nodeC N V p).set b (kidD none))))) k = some x := by
  intro k x hx
  have hkid : ∀ q c, q ≠ p → delN N (p ++ [b]) (q ++ [c]) = N (q ++ [c]) := fun q c hq => delN_ne _ fun e => hq (List.append_inj' e rfl).1
  have hgp : delN N (p ++ [b]) p = some g := by rw [delN_ne _ (by simp)]; exact hp
  by_cases e1 : k = g
  · subst e1
    rw [triA_node hok hgp] at hx
    rw [Ar.upd_same, ← hx]
    congr 2
    unfold nodeC
    rcases (by omega : b = 0 ∨ b = 1) with rfl | rfl
    · rw [delN_same, delN_ne _ (show p ++ [1] ≠ p ++ [0] by simp)]; rfl
    · rw [delN_same, delN_ne _ (show p ++ [0] ≠ p ++ [1] by simp)]; rfl
  · rw [Ar.upd_ne _ _ e1]
    by_cases e3 : k = gt
    · subst e3
      rw [triA_tree] at hx ⊢
      rw [← hx, delN_ne _ (by simp)]
    · by_cases e4 : ∃ q, delN N (p ++ [b]) q = some k
      · obtain ⟨q, hq⟩ := e4
        obtain ⟨e5, hq2⟩ := delN_some hq
        have hqp : q ≠ p := fun e => e1 (by rw [e, hgp] at hq; exact (Option.some.inj hq).symm)
        rw [triA_node hok hq] at hx
        rw [triA_node h hq2, ← hx]
        unfold nodeC
        rw [hkid q 0 hqp, hkid q 1 hqp]
      · rw [triA_none e3 (fun q hq => e4 ⟨q, hq⟩)] at hx
        cases hx
end Go.Proofs.Ytihmdlkbfpipeaa.V
namespace Go.Proofs.Ytihmdlkbfpipeaa.V
open Go.RowKit
attribute [local irreducible] Fn FnN OpVC ArC

theorem way_len (a n : Nat) : (way a n).length = n := by unfold way; rw [List.length_map, List.length_range]
set_option maxHeartbeats 8000000 in
theorem prune_ar {V : List Nat → Option Int} {gt : Nat} {len : Int} (a bits : Nat) (ha : a < 4294967296) (hb : bits ≤ 32) : ∀ (m : Nat) {N : List Nat → Option Nat} (_ : TriOk N V gt) (k g : Nat), k + m = bits → N (way a k) = some g →
    ArC Try.prog 17 [.v (.pointer (some ⟨g, 0, none⟩)), u32D a, intD k, intD bits] (triA N V gt len) fun _ M => ∃ N', TriOk N' V gt ∧ M = triA N' V gt len ∧ ∀ q, q.length ≤ k → N' q = N q
  | 0, N, h, k, g, hk, hg => by
    obtain rfl : k = bits := by omega
    refine arOf [] Try.func17 rfl (by kernel_rfl) (Nat.le_of_ble_eq_true rfl) fun S => ?_
    conv => whnf
    refine Fork.intro (fun _ => ?_) (fun q => absurd rfl (of_decide_eq_false q))
    conv => whnf
    exact .done _ _ rfl rfl ⟨N, h, rfl, fun _ _ => rfl⟩
  | m + 1, N, h, k, g, hk, hg => by
    refine arOf [] Try.func17 rfl (by kernel_rfl) (Nat.le_of_ble_eq_true rfl) fun S => ?_
    have hbit := bit_fn a k ha (by omega)
    have hb2 : bitN a k < 2 := Nat.mod_lt _ (by decide)
    have hway := way_succ a k
    have hwl := way_len a k
    have hnode := triA_node (V := V) (len := len) h hg
    have ih := fun {N : List Nat → Option Nat} (h : TriOk N V gt) (g : Nat) => prune_ar (len := len) a bits ha hb m h (k + 1) g (by omega)
    have e0 := wrapN (n := k) (by omega)
    rw [hway] at ih
    generalize bitN a k = b at *
    conv => whnf
    refine Fork.intro (fun q => absurd (of_decide_eq_true q) (by omega)) (fun _ => ?_)
    conv => whnf
    (refine CallVC.pure (hbit) rfl ?_; rintro _ rfl; conv => whnf)
    refine pv_nil rfl ?_
    conv => whnf
    refine pv_field ttH rfl rfl rfl ?_
    conv => whnf
    refine pv_indexP ttH rfl rfl rfl rfl (by omega) (by omega) ?_
    conv => whnf
    refine pv_loadA (i := 0) (d := kidD (N (way a k ++ [b]))) ttH rfl rfl rfl hnode ?_ ?_
    · rcases (by omega : b = 0 ∨ b = 1) with rfl | rfl <;> rfl
    cases hkid : N (way a k ++ [b]) with
    | none =>
      conv => whnf
      exact .done _ _ rfl rfl ⟨N, h, rfl, fun _ _ => rfl⟩
    | some g' =>
      have hrec := ih h g' hkid
      conv => whnf
      refine pv_isNil (b := false) ttH rfl rfl rfl (.inl ⟨rfl, rfl⟩) ?_
      conv => whnf
      refine pv_nil rfl ?_
      conv => whnf
      refine pv_field ttH rfl rfl rfl ?_
      conv => whnf
      refine pv_indexP ttH rfl rfl rfl rfl (by omega) (by omega) ?_
      conv => whnf
      refine pv_loadA (i := 0) (d := kidD (N (way a k ++ [b]))) ttH rfl rfl rfl hnode ?_ ?_
      · rcases (by omega : b = 0 ∨ b = 1) with rfl | rfl <;> rfl
      rw [hkid]
      conv => whnf
      rw [e0]
      refine CallVC.ar (i := 0) hrec rfl rfl ?_
      rintro d _ S1 ⟨N1, h1, rfl, hsame⟩
      have hg1 : N1 (way a k) = some g := by rw [hsame _ (by omega)]; exact hg
      have hkid1 : N1 (way a k ++ [b]) = some g' := by rw [hsame _ (by rw [List.length_append, hwl]; exact Nat.le_refl _)]; exact hkid
      have hnode1 := triA_node (V := V) (len := len) h1 hg1
      have hbare := bare_ar (len := len) h1 hkid1
      conv => whnf
      refine pv_nil rfl ?_
      conv => whnf
      refine pv_field ttH rfl rfl rfl ?_
      conv => whnf
      refine pv_indexP ttH rfl rfl rfl rfl (by omega) (by omega) ?_
      conv => whnf
      refine pv_loadA (i := 0) (d := kidD (N1 (way a k ++ [b]))) ttH rfl rfl rfl hnode1 ?_ ?_
      · rcases (by omega : b = 0 ∨ b = 1) with rfl | rfl <;> rfl
      rw [hkid1]
      conv => whnf
      refine CallVC.ar (i := 0) hbare rfl rfl ?_
      rintro _ _ S2 ⟨rfl, rfl⟩
      cases hbb : (!(V (way a k ++ [b])).isSome && ((N1 (way a k ++ [b] ++ [0])).isNone && (N1 (way a k ++ [b] ++ [1])).isNone)) with
      | false =>
        conv => whnf
        exact .done _ _ rfl rfl ⟨N1, h1, rfl, fun q hq => hsame q (by omega)⟩
      | true =>
        simp only [Bool.and_eq_true, Bool.not_eq_true', Option.isNone_iff_eq_none, Option.isSome_eq_false_iff] at hbb
        have hok := tri_cut h1 (c := way a k ++ [b]) (by simp) hbb.1 hbb.2.1 hbb.2.2
        conv => whnf
        refine pv_nil rfl ?_
        conv => whnf
        refine pv_field ttH rfl rfl rfl ?_
        conv => whnf
        refine pv_indexP ttH rfl rfl rfl rfl (by omega) (by omega) ?_
        conv => whnf
        refine op_storeA (i := 0) (l' := (nodeC N1 V (way a k)).set b (kidD none)) ttH rfl rfl rfl rfl hnode1 rfl rfl rfl rfl ?_ ?_
        · rcases (by omega : b = 0 ∨ b = 1) with rfl | rfl <;> rfl
        conv => whnf
        refine .drp _ _ (triA (delN N1 (way a k ++ [b])) V gt len) rfl (tri_cut_sub h1 hg1 hb2 hok) fun S3 => ?_
        refine .done _ _ rfl rfl ⟨_, hok, rfl, fun q hq => ?_⟩
        rw [delN_ne _ fun e => by rw [e, List.length_append, hwl, List.length_singleton] at hq; omega]
        exact hsame q (by omega)
end Go.Proofs.Ytihmdlkbfpipeaa.V
namespace Go.Proofs.Ytihmdlkbfpipeaa.V
open Go.RowKit
attribute [local irreducible] Fn FnN OpVC ArC

set_option maxHeartbeats 8000000 in
theorem drop_ar {N : List Nat → Option Nat} {V : List Nat → Option Int} {gt : Nat} {len : Int} (h : TriOk N V gt) (a : Nat) (bits : Int) (ha : a < 4294967296) :
    ArC Try.prog 7 [.v (.pointer (some ⟨gt, 0, none⟩)), u32D a, intD bits] (triA N V gt len) fun d M =>
      match decide (0 ≤ bits ∧ bits ≤ 32) with
      | false => M = triA N V gt len ∧ d = boolD false
      | true => match V (way a bits.toNat) with
        | none => M = triA N V gt len ∧ d = boolD false
        | some _ => ∃ N' len', TriOk N' (setV V (way a bits.toNat) none) gt ∧ M = triA N' (setV V (way a bits.toNat) none) gt len' ∧ d = boolD true := by
  refine arOf [] Try.func7 rfl (by kernel_rfl) (Nat.le_of_ble_eq_true rfl) fun S => ?_
  have hok := ok_ar (len := len) h
  have hmay := may_fn bits
  conv => whnf
  refine CallVC.ar (i := 0) hok rfl rfl ?_
  rintro _ _ S1 ⟨rfl, rfl⟩
  conv => whnf
  (refine CallVC.pure (hmay) rfl ?_; rintro _ rfl; conv => whnf)
  cases hb : decide (0 ≤ bits ∧ bits ≤ 32) with
  | false =>
    conv => whnf
    exact .done _ _ rfl rfl ⟨rfl, rfl⟩
  | true =>
    obtain ⟨hb1, hb2⟩ := of_decide_eq_true hb
    obtain ⟨m, rfl⟩ : ∃ m : Nat, bits = (m : Int) := ⟨bits.toNat, by omega⟩
    have hw := walkN_ar N V gt len h a m ha (by omega)
    rw [Int.toNat_natCast]
    clear hok hmay
    conv => whnf
    refine CallVC.ar (i := 0) hw rfl rfl ?_
    rintro _ _ S2 ⟨rfl, rfl⟩
    cases hg : N (way a m) with
    | none =>
      have hv : V (way a m) = none := by
        cases hq : V (way a m) with
        | none => rfl
        | some x => exact absurd hg (h.val _ (by rw [hq]; simp))
      rw [hv]
      conv => whnf
      exact .done _ _ rfl rfl ⟨rfl, rfl⟩
    | some g =>
      have hnode := triA_node (len := len) h hg
      conv => whnf
      refine pv_isNil (b := false) ttH rfl rfl rfl (.inl ⟨rfl, rfl⟩) ?_
      conv => whnf
      refine pv_nil rfl ?_
      conv => whnf
      refine pv_field ttH rfl rfl rfl ?_
      conv => whnf
      refine pv_loadA (i := 0) ttH rfl rfl rfl hnode rfl ?_
      cases hv : V (way a m) with
      | none =>
        conv => whnf
        exact .done _ _ rfl rfl ⟨rfl, rfl⟩
      | some x =>
        obtain ⟨g0, hg0⟩ := Option.ne_none_iff_exists'.1 h.root
        have hok3 := tri_set h (q := way a m) (by rw [hg]; simp) none
        have htree := triA_tree N (setV V (way a m) none) gt len
        have hlen := fun x => triA_len (len := len) hok3 x
        have hpr := fun len => prune_ar (len := len) a m ha (by omega) m hok3 0 g0 (by omega) hg0
        conv => whnf
        refine pv_nil rfl ?_
        conv => whnf
        refine pv_field ttH rfl rfl rfl ?_
        conv => whnf
        refine op_storeA (i := 0) ttH rfl rfl rfl rfl hnode rfl rfl rfl rfl rfl ?_
        conv => whnf
        refine pv_nil rfl ?_
        conv => whnf
        refine pv_field ttH rfl rfl rfl ?_
        conv => whnf
        refine op_storeA (i := 0) (l' := [kidD (N (way a m ++ [0])), kidD (N (way a m ++ [1])), intD ((none : Option Int).getD 0), boolD (none : Option Int).isSome]) ttH rfl rfl rfl rfl (Ar.upd_same _ _ _) rfl rfl rfl rfl rfl ?_
        rw [upd_upd, triA_set h hg none]
        conv => whnf
        refine pv_nil rfl ?_
        conv => whnf
        refine pv_field ttH rfl rfl rfl ?_
        conv => whnf
        refine pv_loadA (i := 0) ttH rfl rfl rfl htree rfl ?_
        conv => whnf
        refine pv_nil rfl ?_
        conv => whnf
        refine pv_field ttH rfl rfl rfl ?_
        conv => whnf
        refine op_storeA (i := 0) (l' := [kidD (N []), intD (IntKind.i64.wrap (len - 1))]) ttH rfl rfl rfl rfl htree rfl rfl rfl rfl rfl ?_
        rw [hlen]
        generalize IntKind.i64.wrap (len - 1) = len2
        have htree2 := triA_tree N (setV V (way a m) none) gt len2
        conv => whnf
        refine pv_nil rfl ?_
        conv => whnf
        refine pv_field ttH rfl rfl rfl ?_
        conv => whnf
        refine pv_loadA (i := 0) ttH rfl rfl rfl htree2 rfl ?_
        rw [hg0]
        conv => whnf
        refine CallVC.ar (i := 0) (hpr len2) rfl rfl ?_
        rintro d _ S3 ⟨N3, hok4, rfl, _⟩
        conv => whnf
        exact .done _ _ rfl rfl ⟨N3, len2, hok4, rfl, rfl⟩
end Go.Proofs.Ytihmdlkbfpipeaa.V
namespace Go.Proofs.Ytihmdlkbfpipeaa.V
open Go.RowKit
attribute [local irreducible] Fn FnN OpVC ArC

abbrev rowsL (L : List LNet) : D := .rows LNet 3 netC L
def entry (V : List Nat → Option Int) (p : List Nat) (a bits : Nat) : List LNet := match V p with
  | some x => [⟨a, bits, x⟩]
  | none => []
def orA (a d : Nat) : Nat := (BitVec.ofInt IntKind.u32.bits (a : Int) ||| BitVec.ofInt IntKind.u32.bits (IntKind.u32.wrap (1 * 2 ^ min ((d : Nat) : Int).toNat IntKind.u32.bits))).toNat
theorem orA_lt (a d : Nat) : orA a d < 4294967296 := (BitVec.ofInt IntKind.u32.bits (a : Int) ||| BitVec.ofInt IntKind.u32.bits (IntKind.u32.wrap (1 * 2 ^ min ((d : Nat) : Int).toNat IntKind.u32.bits))).isLt
theorem u32w {n : Nat} (h : n < 4294967296) : IntKind.u32.wrap (n : Int) = (n : Int) := by
  show (n : Int) % 4294967296 = n
  omega
def gl (V : List Nat → Option Int) : Nat → List Nat → Nat → List LNet
  | 0, p, a => entry V p a 32
  | d + 1, p, a => entry V p a (31 - d) ++ gl V d (p ++ [0]) a ++ gl V d (p ++ [1]) (orA a d)
theorem gl_len (V : List Nat → Option Int) : ∀ (d : Nat) (p : List Nat) (a : Nat), (gl V d p a).length + 1 ≤ 2 ^ (d + 1)
  | 0, p, a => by unfold gl entry; split <;> simp
  | d + 1, p, a => by
    have h1 := gl_len V d (p ++ [0]) a
    have h2 := gl_len V d (p ++ [1]) (orA a d)
    have h3 : (entry V p a (31 - d)).length ≤ 1 := by unfold entry; split <;> simp
    unfold gl
    rw [List.length_append, List.length_append, Nat.pow_succ]
    omega
theorem gl_none {N : List Nat → Option Nat} {V : List Nat → Option Int} {gt : Nat} (h : TriOk N V gt) : ∀ (d : Nat) (p : List Nat) (a : Nat), N p = none → gl V d p a = []
  | d, p, a, hn => by
    have hv : V p = none := by
      cases hq : V p with
      | none => rfl
      | some x => exact absurd hn (h.val _ (by rw [hq]; simp))
    have hk : ∀ c, N (p ++ [c]) = none := fun c => by
      cases hq : N (p ++ [c]) with
      | none => rfl
      | some x => exact absurd hn (h.up _ c (by rw [hq]; simp))
    cases d with
    | zero => unfold gl entry; rw [hv]
    | succ d =>
      unfold gl entry
      rw [hv, gl_none h d _ _ (hk 0), gl_none h d _ _ (hk 1)]
      rfl
theorem triA_exact {N : List Nat → Option Nat} {V : List Nat → Option Int} {gt : Nat} {len : Int} (h : TriOk N V gt) : ∀ k x, triA N V gt len k = some x → x.exact := by
  intro k x hx
  by_cases e3 : k = gt
  · subst e3
    rw [triA_tree] at hx
    injection hx with hx; subst hx
    intro d hd
    simp only [List.mem_cons, List.not_mem_nil, or_false] at hd
    rcases hd with rfl | rfl <;> exact ⟨_, rfl⟩
  · by_cases e4 : ∃ q, N q = some k
    · obtain ⟨q, hq⟩ := e4
      rw [triA_node h hq] at hx
      injection hx with hx; subst hx
      intro d hd
      simp only [nodeC, List.mem_cons, List.not_mem_nil, or_false] at hd
      rcases hd with rfl | rfl | rfl | rfl <;> exact ⟨_, rfl⟩
    · rw [triA_none e3 (fun q hq => e4 ⟨q, hq⟩)] at hx; cases hx
set_option maxHeartbeats 8000000 in
theorem gather_ar {N : List Nat → Option Nat} {V : List Nat → Option Int} {gt : Nat} {len : Int} (h : TriOk N V gt) : ∀ (d : Nat) (p : List Nat) (a bits : Nat), bits + d = 32 → a < 4294967296 →
    ArC Try.prog 22 [kidD (N p), u32D a, intD bits] (triA N V gt len) fun r M => M = triA N V gt len ∧ r = rowsL (gl V d p a)
  | d, p, a, bits, hb, ha => by
    refine arOf [] Try.func22 rfl (by kernel_rfl) (Nat.le_of_ble_eq_true rfl) fun S => ?_
    cases hp : N p with
    | none =>
      rw [gl_none h d p a hp]
      conv => whnf
      exact .le (DLe.nil 3 netC) (.done _ _ rfl rfl ⟨rfl, rfl⟩)
    | some g =>
      have hnode := triA_node (V := V) (len := len) h hp
      conv => whnf
      refine pv_isNil (b := false) ttH rfl rfl rfl (.inl ⟨rfl, rfl⟩) ?_
      conv => whnf
      refine pv_nil rfl ?_
      conv => whnf
      refine pv_field ttH rfl rfl rfl ?_
      conv => whnf
      refine pv_loadA (i := 0) ttH rfl rfl rfl hnode rfl ?_
      have e0 := wrapN (n := bits) (by omega)
      cases hv : V p with
      | none =>
        have hent : ∀ b, entry V p a b = [] := fun b => by unfold entry; rw [hv]
        conv => whnf
        cases d with
        | zero =>
          refine Fork.intro (fun q => absurd (of_decide_eq_true q) (by omega)) (fun _ => ?_)
          conv => whnf
          exact .le (DLe.nil 3 netC) (.done _ _ rfl rfl ⟨rfl, by unfold gl; rw [hent]⟩)
        | succ d =>
          refine Fork.intro (fun _ => ?_) (fun q => absurd (of_decide_eq_false q) (by omega))
          have ih0 := gather_ar (len := len) h d (p ++ [0]) a (bits + 1) (by omega) ha
          have hl0 := gl_len V d (p ++ [0]) a
          have hl1 := gl_len V d (p ++ [1]) (orA a d)
          have hpow : 2 ^ (d + 1) ≤ 2 ^ 33 := Nat.pow_le_pow_right (by decide) (by omega)
          conv => whnf
          refine pv_nil rfl ?_
          conv => whnf
          refine pv_field ttH rfl rfl rfl ?_
          conv => whnf
          refine pv_indexP ttH rfl rfl rfl rfl (by decide) (by decide) ?_
          conv => whnf
          refine pv_loadA (i := 0) (d := kidD (N (p ++ [0]))) ttH rfl rfl rfl hnode rfl ?_
          conv => whnf
          rw [e0]
          refine CallVC.ar (i := 0) ih0 rfl rfl ?_
          rintro _ _ S1 ⟨rfl, rfl⟩
          conv => whnf
          refine ⟨LNet, netC, [] ++ gl V d (p ++ [0]) a, by rw [List.map_append]; rfl, fun _ => rfl, by rw [List.length_append]; simp only [List.length_cons, List.length_nil]; omega, by rw [List.length_append]; simp only [List.length_cons, List.length_nil]; omega, rfl, ?_⟩
          have e31 : IntKind.i64.wrap (31 - (bits : Int)) = ((d : Nat) : Int) := by rw [IntWalk.i64_in _ (by omega)]; omega
          conv => whnf
          refine pv_nil rfl ?_
          conv => whnf
          refine pv_field ttH rfl rfl rfl ?_
          conv => whnf
          refine pv_indexP ttH rfl rfl rfl rfl (by decide) (by decide) ?_
          conv => whnf
          refine pv_loadA (i := 0) (d := kidD (N (p ++ [1]))) ttH rfl rfl rfl hnode rfl ?_
          conv => whnf
          rw [e31]
          refine ⟨by omega, ?_⟩
          conv => whnf
          rw [e0, show IntKind.u32.wrap (((BitVec.ofInt IntKind.u32.bits (a : Int) ||| BitVec.ofInt IntKind.u32.bits (IntKind.u32.wrap (1 * 2 ^ min ((d : Nat) : Int).toNat IntKind.u32.bits))).toNat : Nat) : Int) = ((orA a d : Nat) : Int) from u32w (orA_lt a d)]
          have ih1 := gather_ar (len := len) h d (p ++ [1]) (orA a d) (bits + 1) (by omega) (orA_lt a d)
          refine CallVC.arG (i := 0) ih1 rfl rfl (fun _ => ⟨fun d M hq => hq.1, triA_exact h⟩) ?_
          rintro _ _ S2 ⟨rfl, rfl⟩
          conv => whnf
          refine ⟨LNet, netC, [] ++ gl V d (p ++ [0]) a ++ gl V d (p ++ [1]) (orA a d), List.map_append, fun _ => rfl, by rw [List.length_append, List.length_append]; simp only [List.length_cons, List.length_nil]; omega, by rw [List.length_append, List.length_append]; simp only [List.length_cons, List.length_nil]; omega, rfl, ?_⟩
          conv => whnf
          refine .frz 2 LNet 28 3 netC _ rfl ?_
          refine .done _ _ rfl rfl ⟨rfl, ?_⟩
          have : gl V (d + 1) p a = entry V p a bits ++ gl V d (p ++ [0]) a ++ gl V d (p ++ [1]) (orA a d) := by
            rw [show bits = 31 - d by omega]; rfl
          rw [this, hent]
          rfl
      | some x =>
        have hent : ∀ b, entry V p a b = [⟨a, b, x⟩] := fun b => by unfold entry; rw [hv]
        conv => whnf
        refine pv_nil rfl ?_
        conv => whnf
        refine pv_field ttH rfl rfl rfl ?_
        conv => whnf
        refine pv_loadA (i := 0) (d := intD x) ttH rfl rfl rfl hnode (by unfold nodeC; rw [hv]; rfl) ?_
        conv => whnf
        (refine ⟨Nat.le_of_ble_eq_true rfl, ?_⟩; conv => whnf)
        refine ⟨LNet, netC, [⟨a, bits, x⟩], rfl, fun _ => rfl, Nat.le_of_ble_eq_true rfl, Nat.le_of_ble_eq_true rfl, rfl, ?_⟩
        conv => whnf
        cases d with
        | zero =>
          refine Fork.intro (fun q => absurd (of_decide_eq_true q) (by omega)) (fun _ => ?_)
          conv => whnf
          refine .frz 1 LNet 28 3 netC _ rfl ?_
          obtain rfl : bits = 32 := by omega
          exact .done _ _ rfl rfl ⟨rfl, by unfold gl; rw [hent]; rfl⟩
        | succ d =>
          refine Fork.intro (fun _ => ?_) (fun q => absurd (of_decide_eq_false q) (by omega))
          have ih0 := gather_ar (len := len) h d (p ++ [0]) a (bits + 1) (by omega) ha
          have hl0 := gl_len V d (p ++ [0]) a
          have hl1 := gl_len V d (p ++ [1]) (orA a d)
          have hpow : 2 ^ (d + 1) ≤ 2 ^ 33 := Nat.pow_le_pow_right (by decide) (by omega)
          conv => whnf
          refine pv_nil rfl ?_
          conv => whnf
          refine pv_field ttH rfl rfl rfl ?_
          conv => whnf
          refine pv_indexP ttH rfl rfl rfl rfl (by decide) (by decide) ?_
          conv => whnf
          refine pv_loadA (i := 0) (d := kidD (N (p ++ [0]))) ttH rfl rfl rfl hnode rfl ?_
          conv => whnf
          rw [e0]
          refine CallVC.ar (i := 0) ih0 rfl rfl ?_
          rintro _ _ S1 ⟨rfl, rfl⟩
          conv => whnf
          refine ⟨LNet, netC, [⟨a, bits, x⟩] ++ gl V d (p ++ [0]) a, List.map_append, fun _ => rfl, by rw [List.length_append]; simp only [List.length_cons, List.length_nil]; omega, by rw [List.length_append]; simp only [List.length_cons, List.length_nil]; omega, rfl, ?_⟩
          have e31 : IntKind.i64.wrap (31 - (bits : Int)) = ((d : Nat) : Int) := by rw [IntWalk.i64_in _ (by omega)]; omega
          conv => whnf
          refine pv_nil rfl ?_
          conv => whnf
          refine pv_field ttH rfl rfl rfl ?_
          conv => whnf
          refine pv_indexP ttH rfl rfl rfl rfl (by decide) (by decide) ?_
          conv => whnf
          refine pv_loadA (i := 0) (d := kidD (N (p ++ [1]))) ttH rfl rfl rfl hnode rfl ?_
          conv => whnf
          rw [e31]
          refine ⟨by omega, ?_⟩
          conv => whnf
          rw [e0, show IntKind.u32.wrap (((BitVec.ofInt IntKind.u32.bits (a : Int) ||| BitVec.ofInt IntKind.u32.bits (IntKind.u32.wrap (1 * 2 ^ min ((d : Nat) : Int).toNat IntKind.u32.bits))).toNat : Nat) : Int) = ((orA a d : Nat) : Int) from u32w (orA_lt a d)]
          have ih1 := gather_ar (len := len) h d (p ++ [1]) (orA a d) (bits + 1) (by omega) (orA_lt a d)
          refine CallVC.arG (i := 0) ih1 rfl rfl (fun _ => ⟨fun d M hq => hq.1, triA_exact h⟩) ?_
          rintro _ _ S2 ⟨rfl, rfl⟩
          conv => whnf
          refine ⟨LNet, netC, [⟨a, bits, x⟩] ++ gl V d (p ++ [0]) a ++ gl V d (p ++ [1]) (orA a d), List.map_append, fun _ => rfl, by rw [List.length_append, List.length_append]; simp only [List.length_cons, List.length_nil]; omega, by rw [List.length_append, List.length_append]; simp only [List.length_cons, List.length_nil]; omega, rfl, ?_⟩
          conv => whnf
          refine .frz 3 LNet 28 3 netC _ rfl ?_
          refine .done _ _ rfl rfl ⟨rfl, ?_⟩
          have : gl V (d + 1) p a = entry V p a bits ++ gl V d (p ++ [0]) a ++ gl V d (p ++ [1]) (orA a d) := by
            rw [show bits = 31 - d by omega]; rfl
          rw [this, hent]
          rfl
end Go.Proofs.Ytihmdlkbfpipeaa.V
namespace Go.Proofs.Ytihmdlkbfpipeaa.V
open Go.RowKit
attribute [local irreducible] Fn FnN OpVC ArC

theorem mask0_fn : Fn Try.prog 20 [intD (0 : Nat)] fun d => d = u32D (0 : Nat) := by
  refine fnOf [] Try.func20 rfl (by kernel_rfl) (Nat.le_of_ble_eq_true rfl) ?_
  conv => whnf
  refine ⟨by decide, ?_⟩
  conv => whnf
  rfl
set_option maxHeartbeats 4000000 in
theorem within_ar {N : List Nat → Option Nat} {V : List Nat → Option Int} {gt : Nat} {len : Int} (h : TriOk N V gt) : ArC Try.prog 12 [.v (.pointer (some ⟨gt, 0, none⟩)), u32D (0 : Nat), intD (0 : Nat)] (triA N V gt len) fun d M => M = triA N V gt len ∧ d = rowsL (gl V 32 [] 0) := by
  refine arOf [] Try.func12 rfl (by kernel_rfl) (Nat.le_of_ble_eq_true rfl) fun S => ?_
  have hok := ok_ar (len := len) h
  have hmay := may_fn 0
  have hw := walkN_ar N V gt len h 0 0 (by decide) (by decide)
  have hm := mask0_fn
  have hga := gather_ar (len := len) h 32 [] 0 0 rfl (by decide)
  conv => whnf
  refine CallVC.ar (i := 0) hok rfl rfl ?_
  rintro _ _ S1 ⟨rfl, rfl⟩
  conv => whnf
  (refine CallVC.pure (hmay) rfl ?_; rintro _ rfl; conv => whnf)
  refine CallVC.ar (i := 0) hw rfl rfl ?_
  rintro _ _ S2 ⟨rfl, rfl⟩
  rw [show way 0 0 = [] from rfl]
  conv => whnf
  (refine CallVC.pure (hm) rfl ?_; rintro _ rfl; conv => whnf)
  rw [show IntKind.u32.wrap ((BitVec.ofInt IntKind.u32.bits ((0 : Nat) : Int) &&& BitVec.ofInt IntKind.u32.bits ((0 : Nat) : Int)).toNat : Int) = ((0 : Nat) : Int) by decide]
  refine CallVC.ar (i := 0) hga rfl rfl ?_
  rintro _ _ S3 ⟨rfl, rfl⟩
  conv => whnf
  exact .done _ _ rfl rfl ⟨rfl, rfl⟩
theorem all_ar {N : List Nat → Option Nat} {V : List Nat → Option Int} {gt : Nat} {len : Int} (h : TriOk N V gt) : ArC Try.prog 10 [.v (.pointer (some ⟨gt, 0, none⟩))] (triA N V gt len) fun d M => M = triA N V gt len ∧ d = rowsL (gl V 32 [] 0) := by
  refine arOf [] Try.func10 rfl (by kernel_rfl) (Nat.le_of_ble_eq_true rfl) fun S => ?_
  have hw := within_ar (len := len) h
  conv => whnf
  refine CallVC.ar (i := 0) hw rfl rfl ?_
  rintro _ _ S1 ⟨rfl, rfl⟩
  conv => whnf
  exact .done _ _ rfl rfl ⟨rfl, rfl⟩
end Go.Proofs.Ytihmdlkbfpipeaa.V
