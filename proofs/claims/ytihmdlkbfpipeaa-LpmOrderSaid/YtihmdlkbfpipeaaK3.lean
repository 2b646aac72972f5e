/-
  Numbers in digits, by value: the program's and the document's. Conditions: numbers below 256.
  A tree of nets as an arena: what lies in its blocks; its bits; the way of a net. Conditions: numbers of their types.
  The way of a net is made. Conditions: numbers of their types.
  A new tree; a net is put. Conditions: numbers of their types.
  A net is put. Conditions: numbers of their types.
-/
import Derived.Test.YtihmdlkbfpipeaaTtK
import Derived.Test.YtihmdlkbfpipeaaK1
import Derived.Lib.Strings
import Derived.Test.YtihmdlkbfpipeaaK2
namespace Go.Proofs.Ytihmdlkbfpipeaa.V
open Go.RowKit
attribute [local irreducible] Fn FnN OpVC

abbrev u32D (n : Int) : D := .v (.int .u32 n)
end Go.Proofs.Ytihmdlkbfpipeaa.V
namespace Go.Proofs.Ytihmdlkbfpipeaa.V
open Go.RowKit

theorem arOf {f : FuncId} {fn : Func} {c : Code} (pl : Plans) (hfn : Try.prog.funcs[f]? = some fn) (hc : fn.body = some c) (hok : codeOk pl fn.ntmps c = true) {args : List D} {M : Ar} {Q : D → Ar → Prop} (hn : args.length ≤ fn.ntmps)
    (h : ∀ S, wpc Try.prog tt pl c ⟨enumD args 0, [(0, arL S M)], 1, ([], 0)⟩ fun e s' => endK e (resK tt s' fn.results.toList fun l => AEnd 0 Q s' (oneD l))) : ArC Try.prog f args M Q := arC_of_wpc ttH ebH mxH hfn hc hok hn h
attribute [local irreducible] Fn FnN OpVC

def bitN (a i : Nat) : Nat := a / 2 ^ (31 - i) % 2
theorem shr_nat (a k : Nat) (hk : k < 32) : (a : Int).fdiv (2 ^ min ((k : Nat) : Int).toNat IntKind.u32.bits) = ((a / 2 ^ k : Nat) : Int) := by
  have h1 : min ((k : Nat) : Int).toNat IntKind.u32.bits = k := by
    show min k 32 = k
    omega
  rw [h1, Int.fdiv_eq_ediv_of_nonneg _ (Int.pow_nonneg (by decide)), show ((2 : Int) ^ k) = ((2 ^ k : Nat) : Int) by simp, Int.natCast_ediv]
theorem and_one (n : Nat) (h : n < 4294967296) : IntKind.i64.wrap (((BitVec.ofInt IntKind.i64.bits (n : Int)) &&& BitVec.ofInt IntKind.i64.bits 1).toNat : Int) = ((n % 2 : Nat) : Int) := by
  have h1 : ((BitVec.ofInt IntKind.i64.bits (n : Int)) &&& BitVec.ofInt IntKind.i64.bits 1).toNat = n % 2 := by
    show ((BitVec.ofInt 64 (n : Int)) &&& BitVec.ofInt 64 1).toNat = n % 2
    rw [BitVec.toNat_and, BitVec.ofInt_natCast, show (BitVec.ofInt 64 1).toNat = 1 from rfl, BitVec.toNat_ofNat, Nat.mod_eq_of_lt (by omega), Nat.and_one_is_mod]
  rw [h1, IntWalk.i64_in _ (by omega)]
theorem bit_fn (a i : Nat) (ha : a < 4294967296) (hi : i < 32) : Fn Try.prog 21 [u32D a, intD i] fun d => d = intD (bitN a i) := by
  refine fnOf [] Try.func21 rfl (by kernel_rfl) (Nat.le_of_ble_eq_true rfl) ?_
  have e1 : IntKind.i64.wrap (31 - (i : Int)) = ((31 - i : Nat) : Int) := by rw [IntWalk.i64_in _ (by omega)]; omega
  conv => whnf
  rw [e1]
  refine ⟨by omega, ?_⟩
  conv => whnf
  have h2 := Nat.div_le_self a (2 ^ (31 - i))
  rw [shr_nat a (31 - i) (by omega)]
  unfold bitN
  generalize a / 2 ^ (31 - i) = x at *
  rw [show IntKind.i64.wrap ((x : Nat) : Int) = ((x : Nat) : Int) from IntWalk.i64_in _ (by omega), and_one _ (by omega)]
theorem wrapN {n : Nat} (h : n < 1000000) : IntKind.i64.wrap ((n : Int) + 1) = ((n + 1 : Nat) : Int) := by
  rw [IntWalk.i64_in _ (by omega)]; omega
theorem may_fn (n : Int) : Fn Try.prog 15 [intD n] fun d => d = boolD (decide (0 ≤ n ∧ n ≤ 32)) := by
  refine fnOf [] Try.func15 rfl (by kernel_rfl) (Nat.le_of_ble_eq_true rfl) ?_
  conv => whnf
  refine Fork.intro (fun q => ?_) (fun q => ?_)
  · have q := of_decide_eq_true q
    conv => whnf
    rw [show decide (0 ≤ n ∧ n ≤ 32) = decide (n ≤ 32) from decide_eq_decide.2 ⟨fun h => h.2, fun h => ⟨q, h⟩⟩]
  · have q := of_decide_eq_false q
    conv => whnf
    rw [decide_eq_false fun h => q h.1]

def way (a n : Nat) : List Nat := (List.range n).map (bitN a)
theorem way_succ (a n : Nat) : way a (n + 1) = way a n ++ [bitN a n] := by
  unfold way
  rw [List.range_succ, List.map_append]
  rfl
def kidD (o : Option Nat) : D := .v (.pointer (o.map fun h => ⟨h, 0, none⟩))
def nodeC (N : List Nat → Option Nat) (V : List Nat → Option Int) (p : List Nat) : List D := [kidD (N (p ++ [0])), kidD (N (p ++ [1])), intD ((V p).getD 0), boolD (V p).isSome]
structure TriOk (N : List Nat → Option Nat) (V : List Nat → Option Int) (gt : Nat) : Prop where
  root : N [] ≠ none
  inj : ∀ p q g, N p = some g → N q = some g → p = q
  up : ∀ p b, N (p ++ [b]) ≠ none → N p ≠ none
  val : ∀ p, V p ≠ none → N p ≠ none
  bin : ∀ p b, N (p ++ [b]) ≠ none → b < 2
  tree : ∀ p, N p ≠ some gt
theorem way_none {N : List Nat → Option Nat} {V : List Nat → Option Int} {gt : Nat} (h : TriOk N V gt) {a k : Nat} (hk : N (way a k) = none) : ∀ {m : Nat}, k ≤ m → N (way a m) = none
  | 0, hm => by rw [show 0 = k by omega]; exact hk
  | m + 1, hm => by
    rcases Nat.lt_or_eq_of_le hm with h1 | h1
    · have ih := way_none h hk (m := m) (by omega)
      cases hq : N (way a (m + 1)) with
      | none => rfl
      | some g =>
        rw [way_succ] at hq
        exact absurd ih (h.up _ _ (by rw [hq]; simp))
    · rw [← h1]; exact hk
open Classical in
noncomputable def triA (N : List Nat → Option Nat) (V : List Nat → Option Int) (gt : Nat) (len : Int) : Ar := fun g =>
  if g = gt then some (.cells 47 [kidD (N []), intD len]) else if h : ∃ p, N p = some g then some (.cells 45 (nodeC N V (Classical.choose h))) else none
theorem triA_tree (N : List Nat → Option Nat) (V : List Nat → Option Int) (gt : Nat) (len : Int) : triA N V gt len gt = some (.cells 47 [kidD (N []), intD len]) := by
  unfold triA
  rw [if_pos rfl]
theorem triA_node {N : List Nat → Option Nat} {V : List Nat → Option Int} {gt : Nat} {len : Int} (h : TriOk N V gt) {p : List Nat} {g : Nat} (hp : N p = some g) : triA N V gt len g = some (.cells 45 (nodeC N V p)) := by
  unfold triA
  have hne : g ≠ gt := fun e => h.tree p (e ▸ hp)
  have hx : ∃ p, N p = some g := ⟨p, hp⟩
  rw [if_neg hne, dif_pos hx, h.inj _ _ _ (Classical.choose_spec hx) hp]
set_option maxHeartbeats 4000000 in
theorem walkN_ar (N : List Nat → Option Nat) (V : List Nat → Option Int) (gt : Nat) (len : Int) (h : TriOk N V gt) (a bits : Nat) (ha : a < 4294967296) (hb : bits ≤ 32) :
    ArC Try.prog 16 [.v (.pointer (some ⟨gt, 0, none⟩)), u32D a, intD bits, boolD false] (triA N V gt len) fun d M => M = triA N V gt len ∧ d = kidD (N (way a bits)) := by
  refine arOf [] Try.func16 rfl (by kernel_rfl) (Nat.le_of_ble_eq_true rfl) fun S => ?_
  obtain ⟨g0, hg0⟩ := Option.ne_none_iff_exists'.1 h.root
  conv => whnf
  refine pv_nil rfl ?_
  conv => whnf
  refine pv_field ttH rfl rfl rfl ?_
  conv => whnf
  refine pv_loadA (i := 0) ttH rfl rfl rfl (triA_tree N V gt len) rfl ?_
  rw [hg0]
  conv => whnf
  refine ⟨Nat × Nat, fun x => ⟨[(17, intD x.1), (16, intD bits), (9, .v (.pointer (some ⟨x.2, 0, none⟩))), (3, boolD false), (1, u32D a)], [(0, arL S (triA N V gt len))], 1, ([], 0)⟩, fun x => x.1 ≤ bits ∧ N (way a x.1) = some x.2, fun x => bits - x.1, ⟨(0, g0), [], [], ?_, ⟨Nat.zero_le _, hg0⟩⟩, ?_⟩
  · repeat' (first | exact trivial | exact .inl (DLe.refl _) | exact .inl (DLe.nil _ _) | (refine .inr ⟨rfl, _, ?_, rfl⟩; rfl) | exact rfl | exact .inl rfl | exact .inr ⟨rfl, rfl, rfl, rfl⟩ | exact Nat.zero_le _ | constructor)
  rintro ⟨k, g⟩ ⟨hk, hg⟩
  dsimp only at hk hg ⊢
  have e0 := wrapN (n := k) (by omega)
  conv => whnf
  refine Fork.intro (fun q => ?_) (fun q => ?_)
  · have q' : k < bits := by have := of_decide_eq_true q; omega
    have hbit := bit_fn a k ha (by omega)
    have hb2 : bitN a k < 2 := Nat.mod_lt _ (by decide)
    have hway := way_succ a k
    have hnode := triA_node (V := V) (len := len) h hg
    generalize bitN a k = b at *
    conv => whnf
    (refine CallVC.pure (hbit) rfl ?_; rintro _ rfl; conv => whnf)
    refine pv_nil rfl ?_
    conv => whnf
    refine pv_field ttH rfl rfl rfl ?_
    conv => whnf
    refine pv_indexP ttH rfl rfl rfl rfl (by omega) (by omega) ?_
    conv => whnf
    refine pv_loadA (i := 0) (d := kidD (N (way a k ++ [b]))) ttH rfl rfl rfl hnode ?_ ?_
    · rcases (by omega : b = 0 ∨ b = 1) with rfl | rfl <;> rfl
    cases hkid : N (way a k ++ [b]) with
    | none =>
      rw [← hway] at hkid
      conv => whnf
      exact .done _ _ rfl rfl ⟨rfl, by rw [way_none h hkid (by omega : k + 1 ≤ bits)]; rfl⟩
    | some g' =>
      conv => whnf
      refine pv_isNil (b := false) ttH rfl rfl rfl (.inl ⟨rfl, rfl⟩) ?_
      conv => whnf
      refine pv_nil rfl ?_
      conv => whnf
      refine pv_field ttH rfl rfl rfl ?_
      conv => whnf
      refine pv_indexP ttH rfl rfl rfl rfl (by omega) (by omega) ?_
      conv => whnf
      refine pv_loadA (i := 0) (d := kidD (N (way a k ++ [b]))) ttH rfl rfl rfl hnode ?_ ?_
      · rcases (by omega : b = 0 ∨ b = 1) with rfl | rfl <;> rfl
      rw [hkid]
      conv => whnf
      rw [e0]
      refine ⟨(k + 1, g'), [], [], ?_, ⟨q', by rw [hway]; exact hkid⟩, by show bits - (k + 1) < bits - k; omega⟩
      repeat' (first | exact trivial | exact .inl (DLe.refl _) | exact .inl (DLe.nil _ _) | (refine .inr ⟨rfl, _, ?_, rfl⟩; rfl) | exact rfl | exact .inl rfl | exact .inr ⟨rfl, rfl, rfl, rfl⟩ | exact Nat.zero_le _ | constructor)
  · have q' : k = bits := by have := of_decide_eq_false q; omega
    subst q'
    conv => whnf
    exact .done _ _ rfl rfl ⟨rfl, by rw [hg]; rfl⟩
end Go.Proofs.Ytihmdlkbfpipeaa.V
namespace Go.Proofs.Ytihmdlkbfpipeaa.V
open Go.RowKit
attribute [local irreducible] Fn FnN OpVC

theorem triA_none {N : List Nat → Option Nat} {V : List Nat → Option Int} {gt : Nat} {len : Int} {k : Nat} (h1 : k ≠ gt) (h2 : ∀ p, N p ≠ some k) : triA N V gt len k = none := by
  unfold triA
  rw [if_neg h1, dif_neg (fun ⟨p, hp⟩ => h2 p hp)]
theorem triA_free {N : List Nat → Option Nat} {V : List Nat → Option Int} {gt : Nat} {len : Int} (h : TriOk N V gt) {k : Nat} (hk : triA N V gt len k = none) : k ≠ gt ∧ ∀ p, N p ≠ some k := by
  refine ⟨fun e => ?_, fun p hp => ?_⟩
  · subst e; rw [triA_tree] at hk; cases hk
  · rw [triA_node h hp] at hk; cases hk
def setN' (N : List Nat → Option Nat) (q : List Nat) (g : Nat) : List Nat → Option Nat := fun p => match decide (p = q) with
  | true => some g
  | false => N p
theorem setN_same (N : List Nat → Option Nat) (q : List Nat) (g : Nat) : setN' N q g q = some g := by unfold setN'; rw [decide_eq_true rfl]
theorem setN_ne (N : List Nat → Option Nat) {p q : List Nat} (g : Nat) (h : p ≠ q) : setN' N q g p = N p := by unfold setN'; rw [decide_eq_false h]
theorem tri_grow {N : List Nat → Option Nat} {V : List Nat → Option Int} {gt : Nat} {len : Int} (h : TriOk N V gt) {p : List Nat} {b g g' : Nat} (hp : N p = some g) (hb : b < 2) (hn : N (p ++ [b]) = none) (hg : triA N V gt len g' = none) : TriOk (setN' N (p ++ [b]) g') V gt := by
  obtain ⟨h1, h2⟩ := triA_free h hg
  have hne : ∀ q c, N (q ++ [c]) ≠ none → q ++ [c] ≠ p ++ [b] := fun q c hq e => hq (by rw [e]; exact hn)
  have mono : ∀ q, N q ≠ none → setN' N (p ++ [b]) g' q ≠ none := fun q hq => by
    by_cases e : q = p ++ [b]
    · subst e; exact absurd hn hq
    · rw [setN_ne _ _ e]; exact hq
  refine ⟨mono _ h.root, fun q r k hq hr => ?_, fun q c hq => ?_, fun q hq => mono _ (h.val q hq), fun q c hq => ?_, fun q hq => ?_⟩
  · by_cases e1 : q = p ++ [b]
    · by_cases e2 : r = p ++ [b]
      · rw [e1, e2]
      · subst e1
        rw [setN_same] at hq
        rw [setN_ne _ _ e2] at hr
        injection hq with hq; subst hq
        exact absurd hr (h2 _)
    · rw [setN_ne _ _ e1] at hq
      by_cases e2 : r = p ++ [b]
      · subst e2
        rw [setN_same] at hr
        injection hr with hr; subst hr
        exact absurd hq (h2 _)
      · rw [setN_ne _ _ e2] at hr
        exact h.inj q r k hq hr
  · by_cases e : q ++ [c] = p ++ [b]
    · have := List.append_inj' e rfl
      rw [this.1]
      exact mono _ (by rw [hp]; simp)
    · rw [setN_ne _ _ e] at hq
      exact mono _ (h.up q c hq)
  · by_cases e : q ++ [c] = p ++ [b]
    · have := (List.append_inj' e rfl).2
      injection this with this
      rw [this]; exact hb
    · rw [setN_ne _ _ e] at hq
      exact h.bin q c hq
  · by_cases e : q = p ++ [b]
    · subst e
      rw [setN_same] at hq
      injection hq with hq
      exact h1 hq
    · rw [setN_ne _ _ e] at hq
      exact h.tree q hq
theorem tri_grow_eq {N : List Nat → Option Nat} {V : List Nat → Option Int} {gt : Nat} {len : Int} (h : TriOk N V gt) {p : List Nat} {b g g' : Nat} (hp : N p = some g) (hb : b < 2) (hn : N (p ++ [b]) = none) (hg : triA N V gt len g' = none) :
    ((triA N V gt len).upd g' (some (.cells 45 [kidD none, kidD none, intD (0 : Nat), boolD false]))).upd g (some (.cells 45 ((nodeC N V p).set b (kidD (some g'))))) = triA (setN' N (p ++ [b]) g') V gt len := by
  have hok := tri_grow h hp hb hn hg
  obtain ⟨h1, h2⟩ := triA_free h hg
  have hgg : g ≠ g' := fun e => h2 p (e ▸ hp)
  have hkid : ∀ q c, q ≠ p → setN' N (p ++ [b]) g' (q ++ [c]) = N (q ++ [c]) := fun q c hq => setN_ne _ _ fun e => hq (List.append_inj' e rfl).1
  funext k
  by_cases e1 : k = g
  · subst e1
    rw [Ar.upd_same, triA_node hok (p := p) (by rw [setN_ne _ _ (by simp)]; exact hp)]
    congr 2
    unfold nodeC
    rcases (by omega : b = 0 ∨ b = 1) with rfl | rfl
    · rw [setN_same, setN_ne _ _ (show p ++ [1] ≠ p ++ [0] by simp)]; rfl
    · rw [setN_same, setN_ne _ _ (show p ++ [0] ≠ p ++ [1] by simp)]; rfl
  · rw [Ar.upd_ne _ _ e1]
    by_cases e2 : k = g'
    · subst e2
      rw [Ar.upd_same, triA_node hok (p := p ++ [b]) (setN_same _ _ _)]
      have hV : V (p ++ [b]) = none := by
        cases hq : V (p ++ [b]) with
        | none => rfl
        | some x => exact absurd hn (h.val _ (by rw [hq]; simp))
      have hN : ∀ c, N (p ++ [b] ++ [c]) = none := fun c => by
        cases hq : N (p ++ [b] ++ [c]) with
        | none => rfl
        | some x => exact absurd hn (h.up _ c (by rw [hq]; simp))
      unfold nodeC
      rw [hkid _ _ (by simp), hkid _ _ (by simp), hN, hN, hV]
      rfl
    · rw [Ar.upd_ne _ _ e2]
      by_cases e3 : k = gt
      · subst e3
        rw [triA_tree, triA_tree, setN_ne _ _ (by simp)]
      · by_cases e4 : ∃ q, N q = some k
        · obtain ⟨q, hq⟩ := e4
          have hqp : q ≠ p := fun e => e1 (by rw [e, hp] at hq; exact (Option.some.inj hq).symm)
          have hqb : q ≠ p ++ [b] := fun e => by rw [e, hn] at hq; cases hq
          rw [triA_node h hq, triA_node hok (p := q) (by rw [setN_ne _ _ hqb]; exact hq)]
          unfold nodeC
          rw [hkid q 0 hqp, hkid q 1 hqp]
        · rw [triA_none e3 (fun p hp => e4 ⟨p, hp⟩), triA_none e3]
          intro q hq
          by_cases e : q = p ++ [b]
          · subst e; rw [setN_same] at hq; exact e2 (Option.some.inj hq).symm
          · rw [setN_ne _ _ e] at hq; exact e4 ⟨q, hq⟩
set_option maxHeartbeats 8000000 in
theorem walkY_ar (N : List Nat → Option Nat) (V : List Nat → Option Int) (gt : Nat) (len : Int) (h : TriOk N V gt) (a bits : Nat) (ha : a < 4294967296) (hb : bits ≤ 32) :
    ArC Try.prog 16 [.v (.pointer (some ⟨gt, 0, none⟩)), u32D a, intD bits, boolD true] (triA N V gt len) fun d M => ∃ N' g, TriOk N' V gt ∧ (∀ q g, N q = some g → N' q = some g) ∧ N' (way a bits) = some g ∧ M = triA N' V gt len ∧ d = .v (.pointer (some ⟨g, 0, none⟩)) := by
  refine arOf [] Try.func16 rfl (by kernel_rfl) (Nat.le_of_ble_eq_true rfl) fun S => ?_
  obtain ⟨g0, hg0⟩ := Option.ne_none_iff_exists'.1 h.root
  conv => whnf
  refine pv_nil rfl ?_
  conv => whnf
  refine pv_field ttH rfl rfl rfl ?_
  conv => whnf
  refine pv_loadA (i := 0) ttH rfl rfl rfl (triA_tree N V gt len) rfl ?_
  rw [hg0]
  conv => whnf
  refine ⟨(Nat → Prop) × Nat × Nat × (List Nat → Option Nat), fun x => ⟨[(17, intD x.2.1), (16, intD bits), (9, .v (.pointer (some ⟨x.2.2.1, 0, none⟩))), (3, boolD true), (1, u32D a)], [(0, arL x.1 (triA x.2.2.2 V gt len))], 1, ([], 0)⟩,
    fun x => x.2.1 ≤ bits ∧ TriOk x.2.2.2 V gt ∧ (∀ q g, N q = some g → x.2.2.2 q = some g) ∧ x.2.2.2 (way a x.2.1) = some x.2.2.1, fun x => bits - x.2.1, ⟨(S, 0, g0, N), [], [], ?_, ⟨Nat.zero_le _, h, fun _ _ h => h, hg0⟩⟩, ?_⟩
  · repeat' (first | exact trivial | exact .inl (DLe.refl _) | exact .inl (DLe.nil _ _) | (refine .inr ⟨rfl, _, ?_, rfl⟩; rfl) | exact rfl | exact .inl rfl | exact .inr ⟨rfl, rfl, rfl, rfl⟩ | exact Nat.zero_le _ | constructor)
  rintro ⟨S, k, g, N1⟩ ⟨hk, h1, hmono, hg⟩
  dsimp only at hk h1 hmono hg ⊢
  have e0 := wrapN (n := k) (by omega)
  conv => whnf
  refine Fork.intro (fun q => ?_) (fun q => ?_)
  · have q' : k < bits := by have := of_decide_eq_true q; omega
    have hbit := bit_fn a k ha (by omega)
    have hb2 : bitN a k < 2 := Nat.mod_lt _ (by decide)
    have hway := way_succ a k
    have hnode := triA_node (V := V) (len := len) h1 hg
    generalize bitN a k = b at *
    conv => whnf
    (refine CallVC.pure (hbit) rfl ?_; rintro _ rfl; conv => whnf)
    refine pv_nil rfl ?_
    conv => whnf
    refine pv_field ttH rfl rfl rfl ?_
    conv => whnf
    refine pv_indexP ttH rfl rfl rfl rfl (by omega) (by omega) ?_
    conv => whnf
    refine pv_loadA (i := 0) (d := kidD (N1 (way a k ++ [b]))) ttH rfl rfl rfl hnode ?_ ?_
    · rcases (by omega : b = 0 ∨ b = 1) with rfl | rfl <;> rfl
    cases hkid : N1 (way a k ++ [b]) with
    | none =>
      conv => whnf
      refine pv_nil rfl ?_
      conv => whnf
      refine pv_field ttH rfl rfl rfl ?_
      conv => whnf
      refine pv_indexP ttH rfl rfl rfl rfl (by omega) (by omega) ?_
      conv => whnf
      refine op_absorb (i := 0) (j := 1) rfl rfl rfl fun g' S' hg' => ?_
      have hgg : g ≠ g' := fun e => (triA_free h1 hg').2 _ (e ▸ hg)
      refine op_storeA (i := 0) (p := 0 + 0 + (b : Int).toNat * 1) (el := 45) (l := nodeC N1 V (way a k)) (M := (triA N1 V gt len).upd g' (some (.cells 45 [kidD none, kidD none, intD (0 : Nat), boolD false]))) (l' := (nodeC N1 V (way a k)).set b (kidD (some g'))) ttH rfl rfl rfl rfl ((Ar.upd_ne _ _ hgg).trans hnode) rfl rfl rfl rfl ?_ ?_
      · rcases (by omega : b = 0 ∨ b = 1) with rfl | rfl <;> rfl
      rw [tri_grow_eq h1 hg hb2 hkid hg']
      have hok := tri_grow h1 hg hb2 hkid hg'
      have hnew : setN' N1 (way a k ++ [b]) g' (way a k ++ [b]) = some g' := setN_same _ _ _
      have hmono' : ∀ q x, N q = some x → setN' N1 (way a k ++ [b]) g' q = some x := fun q x hq => by
        rw [setN_ne _ _ fun e => ?_]
        · exact hmono q x hq
        · rw [e] at hq
          rw [hmono _ _ hq] at hkid
          cases hkid
      have hg2 : setN' N1 (way a k ++ [b]) g' (way a k) = some g := by rw [setN_ne _ _ (by simp)]; exact hg
      have hnode2 := triA_node (V := V) (len := len) hok hg2
      generalize setN' N1 (way a k ++ [b]) g' = N2 at *
      conv => whnf
      refine pv_nil rfl ?_
      conv => whnf
      refine pv_field ttH rfl rfl rfl ?_
      conv => whnf
      refine pv_indexP ttH rfl rfl rfl rfl (by omega) (by omega) ?_
      conv => whnf
      refine pv_loadA (i := 0) (d := kidD (N2 (way a k ++ [b]))) ttH rfl rfl rfl hnode2 ?_ ?_
      · rcases (by omega : b = 0 ∨ b = 1) with rfl | rfl <;> rfl
      rw [hnew]
      conv => whnf
      rw [e0]
      refine ⟨(S', k + 1, g', N2), [], [], ?_, ⟨q', hok, hmono', by rw [hway]; exact hnew⟩, by show bits - (k + 1) < bits - k; omega⟩
      repeat' (first | exact trivial | exact .inl (DLe.refl _) | exact .inl (DLe.nil _ _) | (refine .inr ⟨rfl, _, ?_, rfl⟩; rfl) | exact rfl | exact .inl rfl | exact .inr ⟨rfl, rfl, rfl, rfl⟩ | exact Nat.zero_le _ | constructor)
    | some g' =>
      conv => whnf
      refine pv_isNil (b := false) ttH rfl rfl rfl (.inl ⟨rfl, rfl⟩) ?_
      conv => whnf
      refine pv_nil rfl ?_
      conv => whnf
      refine pv_field ttH rfl rfl rfl ?_
      conv => whnf
      refine pv_indexP ttH rfl rfl rfl rfl (by omega) (by omega) ?_
      conv => whnf
      refine pv_loadA (i := 0) (d := kidD (N1 (way a k ++ [b]))) ttH rfl rfl rfl hnode ?_ ?_
      · rcases (by omega : b = 0 ∨ b = 1) with rfl | rfl <;> rfl
      rw [hkid]
      conv => whnf
      rw [e0]
      refine ⟨(S, k + 1, g', N1), [], [], ?_, ⟨q', h1, hmono, by rw [hway]; exact hkid⟩, by show bits - (k + 1) < bits - k; omega⟩
      repeat' (first | exact trivial | exact .inl (DLe.refl _) | exact .inl (DLe.nil _ _) | (refine .inr ⟨rfl, _, ?_, rfl⟩; rfl) | exact rfl | exact .inl rfl | exact .inr ⟨rfl, rfl, rfl, rfl⟩ | exact Nat.zero_le _ | constructor)
  · have q' : k = bits := by have := of_decide_eq_false q; omega
    subst q'
    conv => whnf
    exact .done _ _ rfl rfl ⟨N1, g, h1, hmono, hg, rfl, rfl⟩
end Go.Proofs.Ytihmdlkbfpipeaa.V
namespace Go.Proofs.Ytihmdlkbfpipeaa.V
open Go.RowKit
attribute [local irreducible] Fn FnN OpVC

theorem upd_upd (M : Ar) (g : Nat) (x y : Option It) : (M.upd g x).upd g y = M.upd g y := by
  funext k
  by_cases h : k = g
  · subst h; rw [Ar.upd_same, Ar.upd_same]
  · rw [Ar.upd_ne _ _ h, Ar.upd_ne _ _ h, Ar.upd_ne _ _ h]
def setV (V : List Nat → Option Int) (q : List Nat) (x : Option Int) : List Nat → Option Int := fun p => match decide (p = q) with
  | true => x
  | false => V p
theorem setV_same (V : List Nat → Option Int) (q : List Nat) (x : Option Int) : setV V q x q = x := by unfold setV; rw [decide_eq_true rfl]
theorem setV_ne (V : List Nat → Option Int) {p q : List Nat} (x : Option Int) (h : p ≠ q) : setV V q x p = V p := by unfold setV; rw [decide_eq_false h]
theorem tri_set {N : List Nat → Option Nat} {V : List Nat → Option Int} {gt : Nat} (h : TriOk N V gt) {q : List Nat} (hq : N q ≠ none) (x : Option Int) : TriOk N (setV V q x) gt :=
  ⟨h.root, h.inj, h.up, fun p hp => by
    by_cases e : p = q
    · rw [e]; exact hq
    · rw [setV_ne _ _ e] at hp; exact h.val p hp, h.bin, h.tree⟩
theorem triA_set {N : List Nat → Option Nat} {V : List Nat → Option Int} {gt : Nat} {len : Int} (h : TriOk N V gt) {q : List Nat} {g : Nat} (hq : N q = some g) (x : Option Int) :
    (triA N V gt len).upd g (some (.cells 45 [kidD (N (q ++ [0])), kidD (N (q ++ [1])), intD (x.getD 0), boolD x.isSome])) = triA N (setV V q x) gt len := by
  have hok := tri_set h (q := q) (by rw [hq]; simp) x
  funext k
  by_cases e1 : k = g
  · subst e1
    rw [Ar.upd_same, triA_node hok hq]
    unfold nodeC
    rw [setV_same]
  · rw [Ar.upd_ne _ _ e1]
    by_cases e3 : k = gt
    · subst e3; rw [triA_tree, triA_tree]
    · by_cases e4 : ∃ r, N r = some k
      · obtain ⟨r, hr⟩ := e4
        have hne : r ≠ q := fun e => e1 (by rw [e, hq] at hr; exact (Option.some.inj hr).symm)
        rw [triA_node h hr, triA_node hok hr]
        unfold nodeC
        rw [setV_ne _ _ hne]
      · rw [triA_none e3 (fun p hp => e4 ⟨p, hp⟩), triA_none e3 (fun p hp => e4 ⟨p, hp⟩)]
theorem triA_len {N : List Nat → Option Nat} {V : List Nat → Option Int} {gt : Nat} {len : Int} (h : TriOk N V gt) (len' : Int) :
    (triA N V gt len).upd gt (some (.cells 47 [kidD (N []), intD len'])) = triA N V gt len' := by
  funext k
  by_cases e3 : k = gt
  · subst e3; rw [Ar.upd_same, triA_tree]
  · rw [Ar.upd_ne _ _ e3]
    by_cases e4 : ∃ r, N r = some k
    · obtain ⟨r, hr⟩ := e4
      rw [triA_node h hr, triA_node h hr]
    · rw [triA_none e3 (fun p hp => e4 ⟨p, hp⟩), triA_none e3 (fun p hp => e4 ⟨p, hp⟩)]

def N0 (g : Nat) : List Nat → Option Nat := setN' (fun _ => none) [] g
theorem tri_new {g gt : Nat} (hne : g ≠ gt) : TriOk (N0 g) (fun _ => none) gt := by
  have hn : ∀ p : List Nat, p ≠ [] → N0 g p = none := fun p hp => setN_ne _ _ hp
  refine ⟨by rw [N0, setN_same]; simp, fun p q k hp hq => ?_, fun p b hp => absurd (hn _ (by simp)) hp, fun p hp => absurd rfl hp, fun p b hp => absurd (hn _ (by simp)) hp, fun p hp => ?_⟩
  · by_cases h1 : p = []
    · by_cases h2 : q = []
      · rw [h1, h2]
      · rw [hn q h2] at hq; cases hq
    · rw [hn p h1] at hp; cases hp
  · by_cases h1 : p = []
    · subst h1
      rw [N0, setN_same] at hp
      exact hne (Option.some.inj hp)
    · rw [hn p h1] at hp; cases hp
theorem tri_new_eq {g gt : Nat} (hne : g ≠ gt) : (Ar.upd (Ar.upd (fun _ => none) g (some (.cells 45 [kidD none, kidD none, intD (0 : Nat), boolD false]))) gt (some (.cells 47 [kidD (some g), intD (0 : Nat)]))) = triA (N0 g) (fun _ => none) gt 0 := by
  have hok := tri_new hne
  have hn : ∀ p : List Nat, p ≠ [] → N0 g p = none := fun p hp => setN_ne _ _ hp
  have h0 : N0 g [] = some g := setN_same _ _ _
  funext k
  by_cases e3 : k = gt
  · subst e3; rw [Ar.upd_same, triA_tree, h0]; rfl
  · rw [Ar.upd_ne _ _ e3]
    by_cases e1 : k = g
    · subst e1
      rw [Ar.upd_same, triA_node hok h0]
      unfold nodeC
      rw [hn _ (by simp), hn _ (by simp)]; rfl
    · rw [Ar.upd_ne _ _ e1, triA_none e3]
      intro p hp
      by_cases h1 : p = []
      · subst h1; rw [h0] at hp; exact e1 (Option.some.inj hp).symm
      · rw [hn p h1] at hp; cases hp
theorem new_ar : ArC Try.prog 5 [] (fun _ => none) fun d M => ∃ gt g, g ≠ gt ∧ M = triA (N0 g) (fun _ => none) gt 0 ∧ d = .v (.pointer (some ⟨gt, 0, none⟩)) := by
  refine arOf [] Try.func5 rfl (by kernel_rfl) (Nat.le_of_ble_eq_true rfl) fun S => ?_
  conv => whnf
  refine .abs 1 _ _ 45 [kidD none, kidD none, intD (0 : Nat), boolD false] rfl rfl rfl fun g S1 _ => ?_
  refine .abs 2 S1 (Ar.upd (fun _ => none) g (some (.cells 45 [kidD none, kidD none, intD (0 : Nat), boolD false]))) 47 [kidD (some g), intD (0 : Nat)] rfl rfl rfl fun gt S2 hgt => ?_
  have hne : g ≠ gt := fun e => by subst e; rw [Ar.upd_same] at hgt; cases hgt
  exact .done S2 (Ar.upd (Ar.upd (fun _ => none) g (some (.cells 45 [kidD none, kidD none, intD (0 : Nat), boolD false]))) gt (some (.cells 47 [kidD (some g), intD (0 : Nat)]))) rfl rfl ⟨gt, g, hne, tri_new_eq hne, rfl⟩
theorem ok_ar {N : List Nat → Option Nat} {V : List Nat → Option Int} {gt : Nat} {len : Int} (h : TriOk N V gt) : ArC Try.prog 14 [.v (.pointer (some ⟨gt, 0, none⟩))] (triA N V gt len) fun d M => M = triA N V gt len ∧ d = boolD true := by
  refine arOf [] Try.func14 rfl (by kernel_rfl) (Nat.le_of_ble_eq_true rfl) fun S => ?_
  obtain ⟨g0, hg0⟩ := Option.ne_none_iff_exists'.1 h.root
  conv => whnf
  refine pv_isNil (b := true) ttH rfl rfl rfl (.inr ⟨rfl, rfl⟩) ?_
  conv => whnf
  refine pv_nil rfl ?_
  conv => whnf
  refine pv_field ttH rfl rfl rfl ?_
  conv => whnf
  refine pv_loadA (i := 0) ttH rfl rfl rfl (triA_tree N V gt len) rfl ?_
  rw [hg0]
  conv => whnf
  refine pv_isNil (b := true) ttH rfl rfl rfl (.inr ⟨rfl, rfl⟩) ?_
  conv => whnf
  exact .done _ _ rfl rfl ⟨rfl, rfl⟩
end Go.Proofs.Ytihmdlkbfpipeaa.V
namespace Go.Proofs.Ytihmdlkbfpipeaa.V
open Go.RowKit
attribute [local irreducible] Fn FnN OpVC ArC

structure LNet where
  addr : Nat
  bits : Int
  num : Int
def LNet.ok (n : LNet) : Prop := n.addr < 4294967296
def netC (n : LNet) : List D := [u32D n.addr, intD n.bits, intD n.num]
set_option maxHeartbeats 8000000 in
theorem put_ar {N : List Nat → Option Nat} {V : List Nat → Option Int} {gt : Nat} {len : Int} (h : TriOk N V gt) (n : LNet) (hn : n.ok) :
    ArC Try.prog 6 [.v (.pointer (some ⟨gt, 0, none⟩)), .agg (netC n)] (triA N V gt len) fun d M =>
      match decide (0 ≤ n.bits ∧ n.bits ≤ 32) with
      | false => M = triA N V gt len ∧ d = boolD false
      | true => ∃ N' len', TriOk N' (setV V (way n.addr n.bits.toNat) (some n.num)) gt ∧ M = triA N' (setV V (way n.addr n.bits.toNat) (some n.num)) gt len' ∧ d = boolD (V (way n.addr n.bits.toNat)).isNone := by
  refine arOf [] Try.func6 rfl (by kernel_rfl) (Nat.le_of_ble_eq_true rfl) fun S => ?_
  have hok := ok_ar (len := len) h
  have hmay := may_fn n.bits
  obtain ⟨a, bits, num⟩ := n
  dsimp only [LNet.ok] at hn hmay ⊢
  conv => whnf
  refine CallVC.ar (i := 0) hok rfl rfl ?_
  rintro _ _ S1 ⟨rfl, rfl⟩
  conv => whnf
  (refine CallVC.pure (hmay) rfl ?_; rintro _ rfl; conv => whnf)
  cases hb : decide (0 ≤ bits ∧ bits ≤ 32) with
  | false =>
    conv => whnf
    exact .done _ _ rfl rfl ⟨rfl, rfl⟩
  | true =>
    obtain ⟨hb1, hb2⟩ := of_decide_eq_true hb
    obtain ⟨m, rfl⟩ : ∃ m : Nat, bits = (m : Int) := ⟨bits.toNat, by omega⟩
    have hw := walkY_ar N V gt len h a m hn (by omega)
    rw [Int.toNat_natCast]
    clear hok hmay
    conv => whnf
    refine CallVC.ar (i := 0) hw rfl rfl ?_
    rintro _ _ S2 ⟨N2, g, hok2, hmono, hg, rfl, rfl⟩
    have hnode := triA_node (len := len) hok2 hg
    have hlen := fun x => triA_len (V := V) (len := len) hok2 x
    conv => whnf
    refine pv_nil rfl ?_
    conv => whnf
    refine pv_field ttH rfl rfl rfl ?_
    conv => whnf
    refine pv_loadA (i := 0) ttH rfl rfl rfl hnode rfl ?_
    conv => whnf
    refine pv_nil rfl ?_
    conv => whnf
    refine pv_field ttH rfl rfl rfl ?_
    conv => whnf
    refine op_storeA (i := 0) ttH rfl rfl rfl rfl hnode rfl rfl rfl rfl rfl ?_
    conv => whnf
    refine pv_nil rfl ?_
    conv => whnf
    refine pv_field ttH rfl rfl rfl ?_
    conv => whnf
    refine op_storeA (i := 0) (l' := [kidD (N2 (way a m ++ [0])), kidD (N2 (way a m ++ [1])), intD ((some num).getD 0), boolD (some num).isSome]) ttH rfl rfl rfl rfl (Ar.upd_same _ _ _) rfl rfl rfl rfl rfl ?_
    rw [upd_upd, triA_set hok2 hg (some num)]
    have hok3 := tri_set hok2 (q := way a m) (by rw [hg]; simp) (some num)
    have htree := triA_tree N2 (setV V (way a m) (some num)) gt len
    have hlen := fun x => triA_len (len := len) hok3 x
    cases hv : V (way a m) with
    | none =>
      conv => whnf
      refine pv_nil rfl ?_
      conv => whnf
      refine pv_field ttH rfl rfl rfl ?_
      conv => whnf
      refine pv_loadA (i := 0) ttH rfl rfl rfl htree rfl ?_
      conv => whnf
      refine pv_nil rfl ?_
      conv => whnf
      refine pv_field ttH rfl rfl rfl ?_
      conv => whnf
      refine op_storeA (i := 0) (l' := [kidD (N2 []), intD (IntKind.i64.wrap (len + 1))]) ttH rfl rfl rfl rfl htree rfl rfl rfl rfl rfl ?_
      rw [hlen]
      conv => whnf
      exact .done _ _ rfl rfl ⟨N2, _, hok3, rfl, rfl⟩
    | some y =>
      conv => whnf
      exact .done _ _ rfl rfl ⟨N2, _, hok3, rfl, rfl⟩
end Go.Proofs.Ytihmdlkbfpipeaa.V
