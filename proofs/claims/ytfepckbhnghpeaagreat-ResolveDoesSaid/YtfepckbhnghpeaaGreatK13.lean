/-
  What the document's cache is in memory, as an arena; its readers. No condition.
  The document's cache as a cluster; put and drop inside its other functions. Conditions: rows not too long. (Printed by gen_dqb.py.)
  A place is learnt: the document's, by value. Conditions: rows not too long.
  A frame waits: the document's, by value. Conditions: rows not too long, not too much waits.
-/
import Derived.Test.YtfepckbhnghpeaaGreatCqK
import Derived.Test.YtfepckbhnghpeaaGreatK1
namespace Go.Proofs.YtfepckbhnghpeaaGreat.V
open Go.RowKit
attribute [local irreducible] Fn FnN ArC FnR ArL

def sinceT (c : Nat → Int) (x : Pl) : Int := x.due - clampW (match x.known with
  | true => c 29
  | false => c 30)
def oneC (c : Nat → Int) (x : Pl) : List D := [intD x.nic, u32D x.next, boolD x.known, u8D (x.mac 0), u8D (x.mac 1), u8D (x.mac 2), u8D (x.mac 3), u8D (x.mac 4), u8D (x.mac 5), intD x.tries, intD (sinceT c x), wsR x.ws]
abbrev rlook (c : Nat → Int) (now : Int) (T : List Pl) : List D := cfgC c ++ [intD now, .rows Pl 12 (oneC c) T]
theorem still_le (C : Ctx) : C.still.Le C := ⟨fun _ _ _ h => h, fun _ h => h, fun _ _ _ h => h.elim, fun _ _ h => h.elim, fun _ _ _ h => h.elim⟩
theorem eq_place (a b : Int × Int) : eqD [intD a.1, u32D a.2] [intD b.1, u32D b.2] = decide (a = b) := by
  show (decide (a.1 = b.1) && (decide (a.2 = b.2) && true)) = _
  obtain ⟨a1, a2⟩ := a
  obtain ⟨b1, b2⟩ := b
  by_cases h1 : a1 = b1 <;> by_cases h2 : a2 = b2 <;> simp [h1, h2]
set_option maxHeartbeats 4000000 in
theorem rfind_fn (c : Nat → Int) (now : Int) (T : List Pl) (k : Int × Int) (hT : T.length ≤ 1000000) : FnN Tryz.prog 70 [.fp (rlook c now T), .agg (plC k)] fun r => (∃ (j : Nat) (x : Pl), T[j]? = some x ∧ x.key = k ∧ r = intD j) ∨ ((∀ x ∈ T, x.key ≠ k) ∧ r = intD (-1)) := by
  refine fnNOf [] Tryz.func70 rfl (by kernel_rfl) (Nat.le_of_ble_eq_true rfl) ?_
  conv => whnf
  refine ⟨Nat, fun i => ⟨[(5, intD i), (3, .loc 0 0), (0, .fp (rlook c now T))], [(0, .cells 81 (plC k))], 1, ([], 0)⟩, fun i => i ≤ T.length ∧ ∀ x ∈ T.take i, x.key ≠ k, fun i => T.length - i, ⟨0, [], [], ?_, Nat.zero_le _, fun x hx => absurd hx List.not_mem_nil⟩, ?_⟩
  · repeat' (first | exact trivial | exact .inl (DLe.refl _) | exact .inl (DLe.nil _ _) | (refine .inr ⟨rfl, _, ?_, rfl⟩; rfl) | exact rfl | exact .inl rfl | exact .inr ⟨rfl, rfl, rfl, rfl⟩ | exact Nat.zero_le _ | constructor)
  rintro i ⟨hi, hno⟩
  have e0 : IntKind.i64.wrap ((i : Int) + 1) = ((i + 1 : Nat) : Int) := by rw [IntWalk.i64_in _ (by omega)]; omega
  dsimp only
  conv => whnf
  refine Fork.intro (fun q => ?_) (fun q => ?_)
  · have q' : i < T.length := by have := of_decide_eq_true q; omega
    obtain ⟨x, hx⟩ : ∃ x, T[i]? = some x := ⟨_, List.getElem?_eq_getElem q'⟩
    conv => whnf
    refine ⟨rfl, ⟨by omega, by omega⟩, fun y hy => ?_⟩
    obtain rfl : x = y := Option.some.inj (hx.symm.trans hy)
    conv => whnf
    refine ⟨by kernel_rfl, rfl, ?_⟩
    conv => whnf
    rw [show eqD [intD x.nic, u32D x.next] [intD k.1, u32D k.2] = decide (x.key = k) from eq_place x.key k]
    refine Fork.intro (fun q2 => ?_) (fun q2 => ?_)
    · have q2' := of_decide_eq_true q2
      conv => whnf
      exact ⟨rfl, .inl ⟨i, x, hx, q2', rfl⟩⟩
    · have q2' := of_decide_eq_false q2
      conv => whnf
      rw [e0]
      refine ⟨i + 1, [], [], ?_, ⟨q', fun y hy => ?_⟩, by show T.length - (i + 1) < T.length - i; omega⟩
      · repeat' (first | exact trivial | exact .inl (DLe.refl _) | exact .inl (DLe.nil _ _) | (refine .inr ⟨rfl, _, ?_, rfl⟩; rfl) | exact rfl | exact .inl rfl | exact .inr ⟨rfl, rfl, rfl, rfl⟩ | exact Nat.zero_le _ | constructor)
      · rw [List.take_add_one, hx, Option.toList_some] at hy
        rcases List.mem_append.1 hy with hy | hy
        · exact hno y hy
        · rw [List.mem_singleton.1 hy]; exact q2'
  · have q' : i = T.length := by have := of_decide_eq_false q; omega
    subst q'
    rw [List.take_length] at hno
    conv => whnf
    exact ⟨rfl, .inr ⟨hno, rfl⟩⟩
theorem waits_snoc {T : List Pl} {i : Nat} {x : Pl} (h : T[i]? = some x) : waitsT (T.take (i + 1)) = waitsT (T.take i) + x.ws.length := by
  rw [List.take_add_one, h, Option.toList_some, waitsT_append]
  rfl
theorem waits_takeL (T : List Pl) (i : Nat) : waitsT (T.take i) ≤ waitsT T := by
  conv => rhs; rw [← List.take_append_drop i T]
  rw [waitsT_append]
  omega
set_option maxHeartbeats 4000000 in
theorem rwaits_fn (c : Nat → Int) (now : Int) (T : List Pl) (hT : T.length ≤ 1000000) (hw : waitsT T ≤ 1000000) : FnN Tryz.prog 17 [.fp (rlook c now T)] fun r => r = intD (waitsT T) := by
  refine fnNOf [] Tryz.func17 rfl (by kernel_rfl) (Nat.le_of_ble_eq_true rfl) ?_
  conv => whnf
  refine ⟨Nat, fun i => ⟨[(4, intD i), (3, intD (waitsT (T.take i))), (0, .fp (rlook c now T))], [], 0, ([], 0)⟩, fun i => i ≤ T.length, fun i => T.length - i, ⟨0, [], [], ?_, Nat.zero_le _⟩, ?_⟩
  · repeat' (first | exact trivial | exact .inl (DLe.refl _) | exact .inl (DLe.nil _ _) | (refine .inr ⟨rfl, _, ?_, rfl⟩; rfl) | exact rfl | exact .inl rfl | exact .inr ⟨rfl, rfl, rfl, rfl⟩ | exact Nat.zero_le _ | constructor)
  rintro i hi
  have e0 : IntKind.i64.wrap ((i : Int) + 1) = ((i + 1 : Nat) : Int) := by rw [IntWalk.i64_in _ (by omega)]; omega
  dsimp only
  conv => whnf
  refine Fork.intro (fun q => ?_) (fun q => ?_)
  · have q' : i < T.length := by have := of_decide_eq_true q; omega
    obtain ⟨x, hx⟩ : ∃ x, T[i]? = some x := ⟨_, List.getElem?_eq_getElem q'⟩
    have hs := waits_snoc hx
    have hl := waits_takeL T (i + 1)
    have ew : IntKind.i64.wrap (((waitsT (T.take i) : Nat) : Int) + ((x.ws.length : Nat) : Int)) = ((waitsT (T.take (i + 1)) : Nat) : Int) := by rw [hs, IntWalk.i64_in _ (by omega)]; omega
    conv => whnf
    refine ⟨rfl, ⟨by omega, by omega⟩, fun y hy => ?_⟩
    obtain rfl : x = y := Option.some.inj (hx.symm.trans hy)
    conv => whnf
    rw [ew, e0]
    refine ⟨i + 1, [], [], ?_, q', by show T.length - (i + 1) < T.length - i; omega⟩
    repeat' (first | exact trivial | exact .inl (DLe.refl _) | exact .inl (DLe.nil _ _) | (refine .inr ⟨rfl, _, ?_, rfl⟩; rfl) | exact rfl | exact .inl rfl | exact .inr ⟨rfl, rfl, rfl, rfl⟩ | exact Nat.zero_le _ | constructor)
  · have q' : i = T.length := by have := of_decide_eq_false q; omega
    subst q'
    rw [List.take_length]
    conv => whnf
    exact ⟨rfl, rfl⟩
def macT (T : List Pl) (k : Int × Int) : D := match findT T k with
  | some x => match x.known with
    | true => .tup [macD x.mac, boolD true]
    | false => .tup [macD mac0, boolD false]
  | none => .tup [macD mac0, boolD false]
set_option maxHeartbeats 4000000 in
theorem rmac_fn (c : Nat → Int) (now : Int) (T : List Pl) (k : Int × Int) (hs : SortT T) (hT : T.length ≤ 1000000) : FnN Tryz.prog 36 [.fp (rlook c now T), .agg (plC k)] fun r => r = macT T k := by
  refine fnNOf [] Tryz.func36 rfl (by kernel_rfl) (Nat.le_of_ble_eq_true rfl) ?_
  have hf := (rfind_fn c now T k hT).fn
  conv => whnf
  refine CallVC.pure hf rfl ?_
  rintro _ (⟨j, x, hx, hxk, rfl⟩ | ⟨hno, rfl⟩)
  · have hft : findT T k = some x := by rw [← hxk]; exact findT_some (sort_keys hs) (List.mem_of_getElem? hx)
    have hj := (List.getElem?_eq_some_iff.1 hx).1
    unfold macT
    rw [hft]
    dsimp only
    conv => whnf
    refine ⟨rfl, ⟨by omega, by omega⟩, fun y hy => ?_⟩
    obtain rfl : x = y := Option.some.inj (hx.symm.trans hy)
    conv => whnf
    cases hkn : x.known with
    | true =>
      conv => whnf
      refine ⟨rfl, ⟨by omega, by omega⟩, fun y hy => ?_⟩
      obtain rfl : x = y := Option.some.inj (hx.symm.trans hy)
      conv => whnf
      exact ⟨rfl, rfl⟩
    | false =>
      conv => whnf
      exact ⟨rfl, rfl⟩
  · unfold macT
    rw [findT_none hno]
    conv => whnf
    exact ⟨rfl, rfl⟩
end Go.Proofs.YtfepckbhnghpeaaGreat.V
namespace Go.Proofs.YtfepckbhnghpeaaGreat.V
open Go.RowKit
attribute [local irreducible] Fn FnN OpVC ArC FnR ArL Ob ObS NewS

theorem obsOfQ {f : FuncId} {fn : Func} {c : Code} {A : Fam} {rest : List D} {Q : D → SepA → Prop} (pl : Plans) (hfn : Tryz.prog.funcs[f]? = some fn) (hc : fn.body = some c) (hok : codeOk pl fn.ntmps c = true) (hn : rest.length + 1 ≤ fn.ntmps)
    (h : ∀ H nx, A H nx → ∃ r z s0, Cover r z ⟨enumD (.loc 0 0 :: rest) 0, H, nx, ([0], 1)⟩ s0 ∧ wpc Tryz.prog tt pl c s0 fun e s' => endK e (resK tt s' fn.results.toList fun l => seeD (oneD l) fun d => sepEnd s' d fun d A' => Q d (sepOf A'))) : ObS Tryz.prog f (sepOf A) rest Q := by
  unfold ObS
  refine ⟨⟨fn, hfn, by rw [hc]; rfl⟩, fun w B b S args' hB hSl hR hr => ?_⟩
  obtain ⟨H, nx, σ, τ, hA, hb0, h0, hS, hhr⟩ := hR
  have hs := sep_start (n := fn.ntmps) hhr hS hb0 h0 hB hr hn
  obtain ⟨r, z, s0, hcov, hw⟩ := h H nx hA
  refine calls_of_wp hfn hc (wp_mono (wpc_sound ttH ebH mxH c hok _ _ _ _ _ w hw (cover_state hcov hs)) fun e a1 w1 hh => ?_)
  obtain ⟨x, s1, σ1, τ1, rfl, h1, h2⟩ := hh
  have fin : resK tt s1 fn.results.toList (fun l => seeD (oneD l) fun d => sepEnd s1 d fun d A' => Q d (sepOf A')) →
      a1.defers = [] ∧ ∃ v, (results fn a1.tmps).run Tryz.prog w1 = .ok v w1 ∧ ∃ d u A' S', Q d A' ∧ Ending.returned v = .returned u ∧ TurnedS S w w1 ∧ (∀ k, S' k → (S k ∨ w.heap.size ≤ k) ∧ k < w1.heap.size) ∧ A'.R (baseCtx w1 (newS B S S' w w1)) b S' ∧ Rep (baseCtx w1 (newS B S S' w w1)) d u := by
    intro hres
    obtain ⟨l, vs, h3, h4, h5⟩ := resK_run ttH h2 _ _ hres
    rw [seeD_eq] at h3
    obtain ⟨d', A', S', q1, q2, q3, q4, q5⟩ := sep_end hSl h2 (oneD_rep h4) (by omega) h3
    exact ⟨h2.defers, _, results_at h5, d', _, sepOf A', S', q1, rfl, q2, q3, q4, q5⟩
  cases x with
  | normal => exact fin h1
  | ret => exact fin h1
  | exit i => exact h1.elim
theorem newOfQ {f : FuncId} {fn : Func} {c : Code} {args : List D} {Q : SepA → Prop} (pl : Plans) (hfn : Tryz.prog.funcs[f]? = some fn) (hc : fn.body = some c) (hok : codeOk pl fn.ntmps c = true) (h0 : 0 < fn.ntmps) (hn : args.length ≤ fn.ntmps)
    (h : wpc Tryz.prog tt pl c ⟨enumD args 0, [], 0, ([], 0)⟩ fun e s => endK e (resK tt s fn.results.toList fun l => seeD (oneD l) fun d => newEnd s d fun A' => Q (sepOf A'))) : NewS Tryz.prog f args Q :=
  new_of_wpc ttH ebH mxH hfn hc hok h0 hn h
theorem toInQ {f : FuncId} {fn : Func} {c : Code} {args : List D} {s : St} {K : D → St → Prop} (m : Nat) (pl : Plans) (hfn : Tryz.prog.funcs[f]? = some fn) (hc : fn.body = some c) (hok : codeOk pl fn.ntmps c = true) (hn : args.length ≤ fn.ntmps) (h0 : 0 < fn.ntmps)
    (hG : Nat.ble s.G.2 m = true) (hmx : Nat.ble m s.nx = true) (hF : s.F.all (fun p => cutOk 6 m p.2) = true)
    (h : wpc Tryz.prog tt pl c ⟨enumD args 0, s.H, s.nx, (upto m 0, m)⟩ fun e s' => endK e (resK tt s' fn.results.toList fun l => seeD (oneD l) fun d => ∃ r z d' H' n', Cover r z ⟨(0, d) :: s'.F, s'.H, s'.nx, s'.G⟩ ⟨[(0, d')], H', n', (upto m 0, m)⟩ ∧ K d' ⟨s.F, H', n', s.G⟩)) : CallVC Tryz.prog false f args s K :=
  CallVC.to ttH ebH mxH hfn hc hok hn h0 hG hmx hF h

abbrev qcH (c : Nat → Int) (now : Int) (T : List Pl) : List (Nat × LO) := [(0, .cells 61 (cfgC c ++ [intD now, .grow 1])), (1, .grow Pl 110 12 (oneC c) T)]
def qcF (c : Nat → Int) (now : Int) (T : List Pl) : Fam := fun H nx => H = qcH c now T ∧ 2 ≤ nx
abbrev qcA (c : Nat → Int) (now : Int) (T : List Pl) : SepA := sepOf (qcF c now T)
theorem qc_look {f : FuncId} {c : Nat → Int} {now : Int} {T : List Pl} {rest : List D} {Q : D → Prop} (hb : hasBody Tryz.prog f) (h : FnN Tryz.prog f (.fp (rlook c now T) :: rest) Q) : FnN Tryz.prog f (.sp (qcA c now T) :: rest) Q :=
  fnN_sp hb fun H nx hH => by obtain ⟨rfl, _⟩ := hH; exact h

/-! ### In its place -/
theorem insT_split {x b : Pl} {A B : List Pl} (hA : ∀ y ∈ A, ¬ keyN x.key < keyN y.key) (hb : keyN x.key < keyN b.key) : insT x (A ++ b :: B) = A ++ x :: b :: B := by
  induction A with
  | nil =>
    show insT x (b :: B) = _
    unfold insT
    rw [decide_eq_true hb]
    rfl
  | cons y r ih =>
    show insT x (y :: (r ++ b :: B)) = _
    unfold insT
    rw [decide_eq_false (hA y List.mem_cons_self), ih fun z hz => hA z (List.mem_cons_of_mem _ hz)]
    rfl
theorem insT_end {x : Pl} {A : List Pl} (hA : ∀ y ∈ A, ¬ keyN x.key < keyN y.key) : insT x A = A ++ [x] := by
  induction A with
  | nil => rfl
  | cons y r ih =>
    unfold insT
    rw [decide_eq_false (hA y List.mem_cons_self), ih fun z hz => hA z (List.mem_cons_of_mem _ hz)]
    rfl
def outP (T : List Pl) (x : Pl) (i : Nat) : Option Nat → List Pl
  | none => T.take i
  | some q => T.take q ++ x :: (T.take i).drop q
def OutOk (T : List Pl) (x : Pl) (i : Nat) : Option Nat → Prop
  | none => ∀ y ∈ T.take i, ¬ keyN x.key < keyN y.key
  | some q => q < i ∧ (∀ y ∈ T.take q, ¬ keyN x.key < keyN y.key) ∧ ∃ b, T[q]? = some b ∧ keyN x.key < keyN b.key
theorem out_old {T : List Pl} {x y : Pl} {i q : Nat} (hy : T[i]? = some y) (hq : q < i) : outP T x i (some q) ++ [y] = outP T x (i + 1) (some q) := by
  have hi := (List.getElem?_eq_some_iff.1 hy).1
  show (T.take q ++ x :: (T.take i).drop q) ++ [y] = T.take q ++ x :: (T.take (i + 1)).drop q
  rw [List.take_add_one, hy, Option.toList_some, List.drop_append_of_le_length (by rw [List.length_take]; omega), List.append_assoc]
  rfl
theorem out_no {T : List Pl} {x y : Pl} {i : Nat} (hy : T[i]? = some y) : outP T x i none ++ [y] = outP T x (i + 1) none := by
  show T.take i ++ [y] = T.take (i + 1)
  rw [List.take_add_one, hy, Option.toList_some]
theorem out_new {T : List Pl} {x y : Pl} {i : Nat} (hy : T[i]? = some y) : (outP T x i none ++ [x]) ++ [y] = outP T x (i + 1) (some i) := by
  have hi := (List.getElem?_eq_some_iff.1 hy).1
  show (T.take i ++ [x]) ++ [y] = T.take i ++ x :: (T.take (i + 1)).drop i
  rw [List.take_add_one, hy, Option.toList_some, List.drop_append_of_le_length (by rw [List.length_take]; omega), List.drop_of_length_le (by rw [List.length_take]; omega), List.append_assoc]
  rfl
theorem out_all {T : List Pl} {x : Pl} {q : Nat} (h : OutOk T x T.length (some q)) : outP T x T.length (some q) = insT x T := by
  obtain ⟨hq, hA, b, hb, hlt⟩ := h
  show T.take q ++ x :: (T.take T.length).drop q = _
  rw [List.take_length]
  obtain ⟨hl, hbb⟩ := List.getElem?_eq_some_iff.1 hb
  have e : T = T.take q ++ b :: T.drop (q + 1) := by
    conv => lhs; rw [← List.take_append_drop q T]
    rw [List.drop_eq_getElem_cons hl, hbb]
  have e2 : T.drop q = b :: T.drop (q + 1) := by rw [List.drop_eq_getElem_cons hl, hbb]
  rw [e2]
  conv => rhs; rw [e]
  rw [insT_split hA hlt]
theorem out_len {T : List Pl} {x : Pl} {i : Nat} {p : Option Nat} (hi : i ≤ T.length) : (outP T x i p).length ≤ T.length + 1 := by
  cases p with
  | none => show (T.take i).length ≤ _; rw [List.length_take]; omega
  | some q =>
    show (T.take q ++ x :: (T.take i).drop q).length ≤ _
    rw [List.length_append, List.length_cons, List.length_drop, List.length_take, List.length_take]
    omega
theorem key_less {a b : Pl} (ha : keyR a.key) (hb : keyR b.key) : keyN a.key < keyN b.key ↔ (a.nic < b.nic ∨ (a.nic = b.nic ∧ a.next < b.next)) := keyN_lt ha hb
def LeQ : List D → List D → Prop
  | [], [] => True
  | a :: l, b :: m => DLe a b ∧ LeQ l m
  | _, _ => False
theorem LeQ.len : ∀ {l m : List D}, LeQ l m → l.length = m.length
  | [], [], _ => rfl
  | _ :: _, _ :: _, h => by simp [LeQ.len h.2]
  | [], _ :: _, h => h.elim
  | _ :: _, [], h => h.elim
theorem LeQ.at : ∀ {l m : List D}, LeQ l m → ∀ (j : Nat) d, m[j]? = some d → ∃ c, l[j]? = some c ∧ DLe c d
  | [], [], _, j, d, hd => by simp at hd
  | a :: l, b :: m, h, j, d, hd => by
    cases j with
    | zero =>
      obtain rfl : b = d := by simpa using hd
      exact ⟨a, rfl, h.1⟩
    | succ j => simpa using LeQ.at h.2 j d (by simpa using hd)
  | [], _ :: _, h, _, _, _ => h.elim
  | _ :: _, [], h, _, _, _ => h.elim
theorem dleAggQ {l m : List D} (h : LeQ l m) : DLe (.agg l) (.agg m) := fun C v hv => by
  cases hv with
  | agg hs hh =>
    refine .agg (hs.trans h.len) fun j d u hd hu => ?_
    obtain ⟨c, h1, h2⟩ := h.at j d hd
    exact h2 _ _ (hh j c u h1 hu)
theorem dleTupQ {l m : List D} (h : LeQ l m) : DLe (.tup l) (.tup m) := fun C v hv => by
  cases hv with
  | tup hs hh =>
    refine .tup (hs.trans h.len) fun j d u hd hu => ?_
    obtain ⟨c, h1, h2⟩ := h.at j d hd
    exact h2 _ _ (hh j c u h1 hu)
theorem dleLitQ {α : Type} {e : Nat} {enc : α → List D} {L : List α} (hf : ∀ y d, d ∈ enc y → cutOk 6 0 d = true) : DLe (.lit e (L.map enc)) (.rows α e enc L) := fun C v h => by
  cases h with
  | lit b o g hc hp hl hcell hrep =>
    rw [List.length_map] at hc
    have hget : ∀ (i : Nat) x, L[i]? = some x → (L.map enc)[i]? = some (enc x) := fun i x hx => by rw [List.getElem?_map, hx]; rfl
    rw [List.length_map]
    refine .rows b o g (Nat.le_of_eq hc) (fun hn => hp (by simpa using hn)) (fun i x hx => hl i _ (hget i x hx)) (fun i x j d hx hd => hcell i _ j d (hget i x hx) hd) (fun i x j d hx hd => cut_still (hf x d (List.mem_of_getElem? hd)) (hrep i _ j d (hget i x hx) hd))
theorem hX39 (k : Int × Int) (r : List (Nat × Nat)) (z : List Nat) (n : Nat) : LOLe r z n (.cells 81 (plC k)) (.cells 81 (plC k)) := ⟨rfl, .inl (DLe.refl _), .inl (DLe.refl _), trivial⟩
theorem hX23 (m : Nat → Int) (r : List (Nat × Nat)) (z : List Nat) (n : Nat) : LOLe r z n (.cells 23 (macC m)) (.cells 23 (macC m)) := ⟨rfl, .inl (DLe.refl _), .inl (DLe.refl _), .inl (DLe.refl _), .inl (DLe.refl _), .inl (DLe.refl _), .inl (DLe.refl _), trivial⟩
theorem insT_upd {T : List Pl} (hs : SortT T) {j : Nat} {x y : Pl} (hx : T[j]? = some x) (hk : y.key = x.key) : insT y (T.eraseIdx j) = updT T y := by
  obtain ⟨hl, hxx⟩ := List.getElem?_eq_some_iff.1 hx
  have e : T = T.take j ++ x :: T.drop (j + 1) := by
    conv => lhs; rw [← List.take_append_drop j T]
    rw [List.drop_eq_getElem_cons hl, hxx]
  have hj : (T.take j).length = j := by rw [List.length_take]; omega
  generalize T.take j = A at e hj
  generalize T.drop (j + 1) = B at e
  subst e
  have hkn := sort_keys hs
  rw [updT_split hkn hk, List.eraseIdx_append_of_length_le (by omega), hj, Nat.sub_self]
  show insT y (A ++ B) = _
  obtain ⟨_, hp⟩ := hs
  rw [List.pairwise_append, List.pairwise_cons] at hp
  obtain ⟨_, ⟨h1, _⟩, h2⟩ := hp
  have hA : ∀ z ∈ A, ¬ keyN y.key < keyN z.key := fun z hz => by
    have := h2 z hz x List.mem_cons_self
    rw [hk]; omega
  cases B with
  | nil => rw [List.append_nil, insT_end hA]
  | cons b r => rw [insT_split hA (by rw [hk]; exact h1 b List.mem_cons_self)]

set_option maxHeartbeats 16000000 in
theorem put3_vc (F : List (Nat × D)) (G : List Nat × Nat) (X1 : LO) (c : Nat → Int) (now : Int) (T : List Pl) (x : Pl) (hT : T.length ≤ 100000) (hs : SortT T) (hx : keyR x.key) {K : D → St → Prop} (hF : F.all (fun p => cutOk 6 2 p.2) = true) (hG : Nat.ble G.2 2 = true) (hX1 : ∀ r z n, LOLe r z n X1 X1)
    (hK : ∀ d, K d ⟨F, [(0, .cells 61 (cfgC c ++ [intD now, .grow 2])), (1, X1), (2, .grow Pl 110 12 (oneC c) (insT x T))], 3, G⟩) : CallVC Tryz.prog false 71 [.loc 0 0, .agg (oneC c x)] ⟨F, [(0, .cells 61 (cfgC c ++ [intD now, .grow 2])), (1, X1), (2, .grow Pl 110 12 (oneC c) T)], 3, G⟩ K := by
  refine toInQ 2 [] Tryz.func71 rfl (by kernel_rfl) (Nat.le_of_ble_eq_true rfl) (by decide) hG rfl hF ?_
  conv => whnf
  refine ⟨Nat × Option Nat, fun z => ⟨[(6, intD z.1), (5, boolD z.2.isSome), (4, .grow 4), (3, .loc 3 0), (0, .loc 0 0)], (4, .grow Pl 110 12 (oneC c) (outP T x z.1 z.2)) :: (3, .cells 110 (oneC c x)) :: ([(0, .cells 61 (cfgC c ++ [intD now, .grow 2])), (1, X1), (2, .grow Pl 110 12 (oneC c) T)]), 5, (upto 2 0, 2)⟩,
    fun z => z.1 ≤ T.length ∧ OutOk T x z.1 z.2, fun z => T.length - z.1, ⟨(0, none), [], [4], ?_, Nat.zero_le _, fun y hy => absurd hy List.not_mem_nil⟩, ?_⟩
  · ((repeat' (first | exact trivial | exact .inl (DLe.refl _) | exact .inl (DLe.nil _ _) | (refine .inr ⟨rfl, _, ?_, rfl⟩; rfl) | exact rfl | exact .inl rfl | exact .inr ⟨rfl, rfl, rfl, rfl⟩ | exact Nat.zero_le _ | constructor)) <;> first | exact hX1 _ _ _)
  rintro ⟨i, p⟩ ⟨hi, hp⟩
  dsimp only at hi hp ⊢
  have hol := fun p => out_len (x := x) (p := p) hi
  have e0 : IntKind.i64.wrap ((i : Int) + 1) = ((i + 1 : Nat) : Int) := by rw [IntWalk.i64_in _ (by omega)]; omega
  conv => whnf
  refine Fork.intro (fun q => ?_) (fun q => ?_)
  · have q' : i < T.length := by have := of_decide_eq_true q; omega
    obtain ⟨y, hy⟩ : ∃ y, T[i]? = some y := ⟨_, List.getElem?_eq_getElem q'⟩
    have hkl := key_less hx (hs.1 y (List.mem_of_getElem? hy))
    conv => whnf
    refine ⟨rfl, ⟨Int.natCast_nonneg _, Int.ofNat_lt.2 q'⟩, ?_⟩
    conv => whnf
    refine ⟨rfl, q', fun z hz => ?_⟩
    obtain rfl : y = z := by rw [Int.toNat_natCast, hy] at hz; injection hz
    conv => whnf
    cases p with
    | some t =>
      have hst := out_old (x := x) hy hp.1
      conv => whnf
      refine ⟨rfl, ⟨Int.natCast_nonneg _, Int.ofNat_lt.2 q'⟩, ?_⟩
      conv => whnf
      refine ⟨rfl, q', fun z hz => ?_⟩
      obtain rfl : y = z := by rw [Int.toNat_natCast, hy] at hz; injection hz
      conv => whnf
      (refine ⟨Nat.le_of_ble_eq_true rfl, ?_⟩; conv => whnf)
      refine ⟨Pl, oneC c, outP T x (i + 1) (some t), by rw [← hst, List.map_append]; rfl, fun _ => rfl, by have := out_len (x := x) (p := some t) (show i + 1 ≤ T.length from q'); omega, by have := out_len (x := x) (p := some t) (show i + 1 ≤ T.length from q'); show (outP T x (i + 1) (some t)).length * 64 ≤ _; omega, rfl, ?_⟩
      conv => whnf
      rw [e0]
      refine ⟨(i + 1, some t), [(4, 6)], [], ?_, ⟨q', by obtain ⟨h1, h2⟩ := hp; exact ⟨by omega, h2⟩⟩, by show T.length - (i + 1) < T.length - i; omega⟩
      ((repeat' (first | exact trivial | exact .inl (DLe.refl _) | exact .inl (DLe.nil _ _) | (refine .inr ⟨rfl, _, ?_, rfl⟩; rfl) | exact rfl | exact .inl rfl | exact .inr ⟨rfl, rfl, rfl, rfl⟩ | exact Nat.zero_le _ | constructor)) <;> first | exact hX1 _ _ _)
    | none =>
      have hno := out_no (x := x) hy
      have hnew := out_new (x := x) hy
      conv => whnf
      refine Fork.intro (fun q1 => ?_) (fun q1 => ?_)
      · have hlt : keyN x.key < keyN y.key := hkl.2 (.inl (of_decide_eq_true q1))
        conv => whnf
        (refine ⟨Nat.le_of_ble_eq_true rfl, ?_⟩; conv => whnf)
        refine ⟨Pl, oneC c, outP T x i none ++ [x], by rw [List.map_append]; rfl, fun _ => rfl, by rw [List.length_append]; have := hol none; show _ + 1 ≤ _; omega, by rw [List.length_append]; have := hol none; show (_ + 1) * 64 ≤ _; omega, rfl, ?_⟩
        conv => whnf
        refine ⟨rfl, ⟨Int.natCast_nonneg _, Int.ofNat_lt.2 q'⟩, ?_⟩
        conv => whnf
        refine ⟨rfl, q', fun z hz => ?_⟩
        obtain rfl : y = z := by rw [Int.toNat_natCast, hy] at hz; injection hz
        conv => whnf
        (refine ⟨Nat.le_of_ble_eq_true rfl, ?_⟩; conv => whnf)
        refine ⟨Pl, oneC c, outP T x (i + 1) (some i), by rw [← hnew, List.map_append]; rfl, fun _ => rfl, by have := out_len (x := x) (p := some i) (show i + 1 ≤ T.length from q'); omega, by have := out_len (x := x) (p := some i) (show i + 1 ≤ T.length from q'); show (outP T x (i + 1) (some i)).length * 64 ≤ _; omega, rfl, ?_⟩
        conv => whnf
        rw [e0]
        refine ⟨(i + 1, some i), [(4, 7)], [], ?_, ⟨q', Nat.lt_succ_self i, hp, y, hy, hlt⟩, by show T.length - (i + 1) < T.length - i; omega⟩
        ((repeat' (first | exact trivial | exact .inl (DLe.refl _) | exact .inl (DLe.nil _ _) | (refine .inr ⟨rfl, _, ?_, rfl⟩; rfl) | exact rfl | exact .inl rfl | exact .inr ⟨rfl, rfl, rfl, rfl⟩ | exact Nat.zero_le _ | constructor)) <;> first | exact hX1 _ _ _)
      · have q1' := of_decide_eq_false q1
        conv => whnf
        refine Fork.intro (fun q2 => ?_) (fun q2 => ?_)
        · have q2' := of_decide_eq_true q2
          conv => whnf
          refine Fork.intro (fun q3 => ?_) (fun q3 => ?_)
          · have hlt : keyN x.key < keyN y.key := hkl.2 (.inr ⟨q2', of_decide_eq_true q3⟩)
            conv => whnf
            (refine ⟨Nat.le_of_ble_eq_true rfl, ?_⟩; conv => whnf)
            refine ⟨Pl, oneC c, outP T x i none ++ [x], by rw [List.map_append]; rfl, fun _ => rfl, by rw [List.length_append]; have := hol none; show _ + 1 ≤ _; omega, by rw [List.length_append]; have := hol none; show (_ + 1) * 64 ≤ _; omega, rfl, ?_⟩
            conv => whnf
            refine ⟨rfl, ⟨Int.natCast_nonneg _, Int.ofNat_lt.2 q'⟩, ?_⟩
            conv => whnf
            refine ⟨rfl, q', fun z hz => ?_⟩
            obtain rfl : y = z := by rw [Int.toNat_natCast, hy] at hz; injection hz
            conv => whnf
            (refine ⟨Nat.le_of_ble_eq_true rfl, ?_⟩; conv => whnf)
            refine ⟨Pl, oneC c, outP T x (i + 1) (some i), by rw [← hnew, List.map_append]; rfl, fun _ => rfl, by have := out_len (x := x) (p := some i) (show i + 1 ≤ T.length from q'); omega, by have := out_len (x := x) (p := some i) (show i + 1 ≤ T.length from q'); show (outP T x (i + 1) (some i)).length * 64 ≤ _; omega, rfl, ?_⟩
            conv => whnf
            rw [e0]
            refine ⟨(i + 1, some i), [(4, 7)], [], ?_, ⟨q', Nat.lt_succ_self i, hp, y, hy, hlt⟩, by show T.length - (i + 1) < T.length - i; omega⟩
            ((repeat' (first | exact trivial | exact .inl (DLe.refl _) | exact .inl (DLe.nil _ _) | (refine .inr ⟨rfl, _, ?_, rfl⟩; rfl) | exact rfl | exact .inl rfl | exact .inr ⟨rfl, rfl, rfl, rfl⟩ | exact Nat.zero_le _ | constructor)) <;> first | exact hX1 _ _ _)
          · have hlt : ¬ keyN x.key < keyN y.key := fun h => by rcases hkl.1 h with h | ⟨_, h⟩; exact q1' h; exact of_decide_eq_false q3 h
            conv => whnf
            refine ⟨rfl, ⟨Int.natCast_nonneg _, Int.ofNat_lt.2 q'⟩, ?_⟩
            conv => whnf
            refine ⟨rfl, q', fun z hz => ?_⟩
            obtain rfl : y = z := by rw [Int.toNat_natCast, hy] at hz; injection hz
            conv => whnf
            (refine ⟨Nat.le_of_ble_eq_true rfl, ?_⟩; conv => whnf)
            refine ⟨Pl, oneC c, outP T x (i + 1) none, by rw [← hno, List.map_append]; rfl, fun _ => rfl, by have := out_len (x := x) (p := none) (show i + 1 ≤ T.length from q'); omega, by have := out_len (x := x) (p := none) (show i + 1 ≤ T.length from q'); show (outP T x (i + 1) none).length * 64 ≤ _; omega, rfl, ?_⟩
            conv => whnf
            rw [e0]
            refine ⟨(i + 1, none), [(4, 6)], [], ?_, ⟨q', fun z hz => ?_⟩, by show T.length - (i + 1) < T.length - i; omega⟩
            · ((repeat' (first | exact trivial | exact .inl (DLe.refl _) | exact .inl (DLe.nil _ _) | (refine .inr ⟨rfl, _, ?_, rfl⟩; rfl) | exact rfl | exact .inl rfl | exact .inr ⟨rfl, rfl, rfl, rfl⟩ | exact Nat.zero_le _ | constructor)) <;> first | exact hX1 _ _ _)
            · rw [List.take_add_one, hy, Option.toList_some] at hz
              rcases List.mem_append.1 hz with hz | hz
              · exact hp z hz
              · rw [List.mem_singleton.1 hz]; exact hlt
        · have q2' := of_decide_eq_false q2
          have hlt : ¬ keyN x.key < keyN y.key := fun h => by rcases hkl.1 h with h | ⟨h, _⟩; exact q1' h; exact q2' h
          conv => whnf
          refine ⟨rfl, ⟨Int.natCast_nonneg _, Int.ofNat_lt.2 q'⟩, ?_⟩
          conv => whnf
          refine ⟨rfl, q', fun z hz => ?_⟩
          obtain rfl : y = z := by rw [Int.toNat_natCast, hy] at hz; injection hz
          conv => whnf
          (refine ⟨Nat.le_of_ble_eq_true rfl, ?_⟩; conv => whnf)
          refine ⟨Pl, oneC c, outP T x (i + 1) none, by rw [← hno, List.map_append]; rfl, fun _ => rfl, by have := out_len (x := x) (p := none) (show i + 1 ≤ T.length from q'); omega, by have := out_len (x := x) (p := none) (show i + 1 ≤ T.length from q'); show (outP T x (i + 1) none).length * 64 ≤ _; omega, rfl, ?_⟩
          conv => whnf
          rw [e0]
          refine ⟨(i + 1, none), [(4, 6)], [], ?_, ⟨q', fun z hz => ?_⟩, by show T.length - (i + 1) < T.length - i; omega⟩
          · ((repeat' (first | exact trivial | exact .inl (DLe.refl _) | exact .inl (DLe.nil _ _) | (refine .inr ⟨rfl, _, ?_, rfl⟩; rfl) | exact rfl | exact .inl rfl | exact .inr ⟨rfl, rfl, rfl, rfl⟩ | exact Nat.zero_le _ | constructor)) <;> first | exact hX1 _ _ _)
          · rw [List.take_add_one, hy, Option.toList_some] at hz
            rcases List.mem_append.1 hz with hz | hz
            · exact hp z hz
            · rw [List.mem_singleton.1 hz]; exact hlt
  · have q' : i = T.length := by have := of_decide_eq_false q; omega
    subst q'
    cases p with
    | some t =>
      have ho := out_all hp
      conv => whnf
      rw [ho]
      refine ⟨[(2, 4)], [], .tup [], [(0, .cells 61 (cfgC c ++ [intD now, .grow 2])), (1, X1), (2, .grow Pl 110 12 (oneC c) (insT x T))], 3, ?_, hK _⟩
      ((repeat' (first | exact trivial | exact .inl (DLe.refl _) | exact .inl (DLe.nil _ _) | (refine .inr ⟨rfl, _, ?_, rfl⟩; rfl) | exact rfl | exact .inl rfl | exact .inr ⟨rfl, rfl, rfl, rfl⟩ | exact Nat.zero_le _ | constructor)) <;> first | exact hX1 _ _ _)
    | none =>
      have hp : ∀ y ∈ T.take T.length, ¬ keyN x.key < keyN y.key := hp
      rw [List.take_length] at hp
      have ho : outP T x T.length none ++ [x] = insT x T := by
        show T.take T.length ++ [x] = _
        rw [List.take_length, insT_end hp]
      have hil : (insT x T).length = T.length + 1 := insT_len _ _
      conv => whnf
      (refine ⟨Nat.le_of_ble_eq_true rfl, ?_⟩; conv => whnf)
      refine ⟨Pl, oneC c, insT x T, by rw [← ho, List.map_append]; rfl, fun _ => rfl, by omega, by show (insT x T).length * 64 ≤ _; omega, rfl, ?_⟩
      conv => whnf
      refine ⟨[(2, 5)], [], .tup [], [(0, .cells 61 (cfgC c ++ [intD now, .grow 2])), (1, X1), (2, .grow Pl 110 12 (oneC c) (insT x T))], 3, ?_, hK _⟩
      ((repeat' (first | exact trivial | exact .inl (DLe.refl _) | exact .inl (DLe.nil _ _) | (refine .inr ⟨rfl, _, ?_, rfl⟩; rfl) | exact rfl | exact .inl rfl | exact .inr ⟨rfl, rfl, rfl, rfl⟩ | exact Nat.zero_le _ | constructor)) <;> first | exact hX1 _ _ _)

set_option maxHeartbeats 16000000 in
theorem put4_vc (F : List (Nat × D)) (G : List Nat × Nat) (X1 X2 : LO) (c : Nat → Int) (now : Int) (T : List Pl) (x : Pl) (hT : T.length ≤ 100000) (hs : SortT T) (hx : keyR x.key) {K : D → St → Prop} (hF : F.all (fun p => cutOk 6 3 p.2) = true) (hG : Nat.ble G.2 3 = true) (hX1 : ∀ r z n, LOLe r z n X1 X1) (hX2 : ∀ r z n, LOLe r z n X2 X2)
    (hK : ∀ d, K d ⟨F, [(0, .cells 61 (cfgC c ++ [intD now, .grow 3])), (1, X1), (2, X2), (3, .grow Pl 110 12 (oneC c) (insT x T))], 4, G⟩) : CallVC Tryz.prog false 71 [.loc 0 0, .agg (oneC c x)] ⟨F, [(0, .cells 61 (cfgC c ++ [intD now, .grow 3])), (1, X1), (2, X2), (3, .grow Pl 110 12 (oneC c) T)], 4, G⟩ K := by
  refine toInQ 3 [] Tryz.func71 rfl (by kernel_rfl) (Nat.le_of_ble_eq_true rfl) (by decide) hG rfl hF ?_
  conv => whnf
  refine ⟨Nat × Option Nat, fun z => ⟨[(6, intD z.1), (5, boolD z.2.isSome), (4, .grow 5), (3, .loc 4 0), (0, .loc 0 0)], (5, .grow Pl 110 12 (oneC c) (outP T x z.1 z.2)) :: (4, .cells 110 (oneC c x)) :: ([(0, .cells 61 (cfgC c ++ [intD now, .grow 3])), (1, X1), (2, X2), (3, .grow Pl 110 12 (oneC c) T)]), 6, (upto 3 0, 3)⟩,
    fun z => z.1 ≤ T.length ∧ OutOk T x z.1 z.2, fun z => T.length - z.1, ⟨(0, none), [], [5], ?_, Nat.zero_le _, fun y hy => absurd hy List.not_mem_nil⟩, ?_⟩
  · ((repeat' (first | exact trivial | exact .inl (DLe.refl _) | exact .inl (DLe.nil _ _) | (refine .inr ⟨rfl, _, ?_, rfl⟩; rfl) | exact rfl | exact .inl rfl | exact .inr ⟨rfl, rfl, rfl, rfl⟩ | exact Nat.zero_le _ | constructor)) <;> first | exact hX1 _ _ _ | exact hX2 _ _ _)
  rintro ⟨i, p⟩ ⟨hi, hp⟩
  dsimp only at hi hp ⊢
  have hol := fun p => out_len (x := x) (p := p) hi
  have e0 : IntKind.i64.wrap ((i : Int) + 1) = ((i + 1 : Nat) : Int) := by rw [IntWalk.i64_in _ (by omega)]; omega
  conv => whnf
  refine Fork.intro (fun q => ?_) (fun q => ?_)
  · have q' : i < T.length := by have := of_decide_eq_true q; omega
    obtain ⟨y, hy⟩ : ∃ y, T[i]? = some y := ⟨_, List.getElem?_eq_getElem q'⟩
    have hkl := key_less hx (hs.1 y (List.mem_of_getElem? hy))
    conv => whnf
    refine ⟨rfl, ⟨Int.natCast_nonneg _, Int.ofNat_lt.2 q'⟩, ?_⟩
    conv => whnf
    refine ⟨rfl, q', fun z hz => ?_⟩
    obtain rfl : y = z := by rw [Int.toNat_natCast, hy] at hz; injection hz
    conv => whnf
    cases p with
    | some t =>
      have hst := out_old (x := x) hy hp.1
      conv => whnf
      refine ⟨rfl, ⟨Int.natCast_nonneg _, Int.ofNat_lt.2 q'⟩, ?_⟩
      conv => whnf
      refine ⟨rfl, q', fun z hz => ?_⟩
      obtain rfl : y = z := by rw [Int.toNat_natCast, hy] at hz; injection hz
      conv => whnf
      (refine ⟨Nat.le_of_ble_eq_true rfl, ?_⟩; conv => whnf)
      refine ⟨Pl, oneC c, outP T x (i + 1) (some t), by rw [← hst, List.map_append]; rfl, fun _ => rfl, by have := out_len (x := x) (p := some t) (show i + 1 ≤ T.length from q'); omega, by have := out_len (x := x) (p := some t) (show i + 1 ≤ T.length from q'); show (outP T x (i + 1) (some t)).length * 64 ≤ _; omega, rfl, ?_⟩
      conv => whnf
      rw [e0]
      refine ⟨(i + 1, some t), [(5, 7)], [], ?_, ⟨q', by obtain ⟨h1, h2⟩ := hp; exact ⟨by omega, h2⟩⟩, by show T.length - (i + 1) < T.length - i; omega⟩
      ((repeat' (first | exact trivial | exact .inl (DLe.refl _) | exact .inl (DLe.nil _ _) | (refine .inr ⟨rfl, _, ?_, rfl⟩; rfl) | exact rfl | exact .inl rfl | exact .inr ⟨rfl, rfl, rfl, rfl⟩ | exact Nat.zero_le _ | constructor)) <;> first | exact hX1 _ _ _ | exact hX2 _ _ _)
    | none =>
      have hno := out_no (x := x) hy
      have hnew := out_new (x := x) hy
      conv => whnf
      refine Fork.intro (fun q1 => ?_) (fun q1 => ?_)
      · have hlt : keyN x.key < keyN y.key := hkl.2 (.inl (of_decide_eq_true q1))
        conv => whnf
        (refine ⟨Nat.le_of_ble_eq_true rfl, ?_⟩; conv => whnf)
        refine ⟨Pl, oneC c, outP T x i none ++ [x], by rw [List.map_append]; rfl, fun _ => rfl, by rw [List.length_append]; have := hol none; show _ + 1 ≤ _; omega, by rw [List.length_append]; have := hol none; show (_ + 1) * 64 ≤ _; omega, rfl, ?_⟩
        conv => whnf
        refine ⟨rfl, ⟨Int.natCast_nonneg _, Int.ofNat_lt.2 q'⟩, ?_⟩
        conv => whnf
        refine ⟨rfl, q', fun z hz => ?_⟩
        obtain rfl : y = z := by rw [Int.toNat_natCast, hy] at hz; injection hz
        conv => whnf
        (refine ⟨Nat.le_of_ble_eq_true rfl, ?_⟩; conv => whnf)
        refine ⟨Pl, oneC c, outP T x (i + 1) (some i), by rw [← hnew, List.map_append]; rfl, fun _ => rfl, by have := out_len (x := x) (p := some i) (show i + 1 ≤ T.length from q'); omega, by have := out_len (x := x) (p := some i) (show i + 1 ≤ T.length from q'); show (outP T x (i + 1) (some i)).length * 64 ≤ _; omega, rfl, ?_⟩
        conv => whnf
        rw [e0]
        refine ⟨(i + 1, some i), [(5, 8)], [], ?_, ⟨q', Nat.lt_succ_self i, hp, y, hy, hlt⟩, by show T.length - (i + 1) < T.length - i; omega⟩
        ((repeat' (first | exact trivial | exact .inl (DLe.refl _) | exact .inl (DLe.nil _ _) | (refine .inr ⟨rfl, _, ?_, rfl⟩; rfl) | exact rfl | exact .inl rfl | exact .inr ⟨rfl, rfl, rfl, rfl⟩ | exact Nat.zero_le _ | constructor)) <;> first | exact hX1 _ _ _ | exact hX2 _ _ _)
      · have q1' := of_decide_eq_false q1
        conv => whnf
        refine Fork.intro (fun q2 => ?_) (fun q2 => ?_)
        · have q2' := of_decide_eq_true q2
          conv => whnf
          refine Fork.intro (fun q3 => ?_) (fun q3 => ?_)
          · have hlt : keyN x.key < keyN y.key := hkl.2 (.inr ⟨q2', of_decide_eq_true q3⟩)
            conv => whnf
            (refine ⟨Nat.le_of_ble_eq_true rfl, ?_⟩; conv => whnf)
            refine ⟨Pl, oneC c, outP T x i none ++ [x], by rw [List.map_append]; rfl, fun _ => rfl, by rw [List.length_append]; have := hol none; show _ + 1 ≤ _; omega, by rw [List.length_append]; have := hol none; show (_ + 1) * 64 ≤ _; omega, rfl, ?_⟩
            conv => whnf
            refine ⟨rfl, ⟨Int.natCast_nonneg _, Int.ofNat_lt.2 q'⟩, ?_⟩
            conv => whnf
            refine ⟨rfl, q', fun z hz => ?_⟩
            obtain rfl : y = z := by rw [Int.toNat_natCast, hy] at hz; injection hz
            conv => whnf
            (refine ⟨Nat.le_of_ble_eq_true rfl, ?_⟩; conv => whnf)
            refine ⟨Pl, oneC c, outP T x (i + 1) (some i), by rw [← hnew, List.map_append]; rfl, fun _ => rfl, by have := out_len (x := x) (p := some i) (show i + 1 ≤ T.length from q'); omega, by have := out_len (x := x) (p := some i) (show i + 1 ≤ T.length from q'); show (outP T x (i + 1) (some i)).length * 64 ≤ _; omega, rfl, ?_⟩
            conv => whnf
            rw [e0]
            refine ⟨(i + 1, some i), [(5, 8)], [], ?_, ⟨q', Nat.lt_succ_self i, hp, y, hy, hlt⟩, by show T.length - (i + 1) < T.length - i; omega⟩
            ((repeat' (first | exact trivial | exact .inl (DLe.refl _) | exact .inl (DLe.nil _ _) | (refine .inr ⟨rfl, _, ?_, rfl⟩; rfl) | exact rfl | exact .inl rfl | exact .inr ⟨rfl, rfl, rfl, rfl⟩ | exact Nat.zero_le _ | constructor)) <;> first | exact hX1 _ _ _ | exact hX2 _ _ _)
          · have hlt : ¬ keyN x.key < keyN y.key := fun h => by rcases hkl.1 h with h | ⟨_, h⟩; exact q1' h; exact of_decide_eq_false q3 h
            conv => whnf
            refine ⟨rfl, ⟨Int.natCast_nonneg _, Int.ofNat_lt.2 q'⟩, ?_⟩
            conv => whnf
            refine ⟨rfl, q', fun z hz => ?_⟩
            obtain rfl : y = z := by rw [Int.toNat_natCast, hy] at hz; injection hz
            conv => whnf
            (refine ⟨Nat.le_of_ble_eq_true rfl, ?_⟩; conv => whnf)
            refine ⟨Pl, oneC c, outP T x (i + 1) none, by rw [← hno, List.map_append]; rfl, fun _ => rfl, by have := out_len (x := x) (p := none) (show i + 1 ≤ T.length from q'); omega, by have := out_len (x := x) (p := none) (show i + 1 ≤ T.length from q'); show (outP T x (i + 1) none).length * 64 ≤ _; omega, rfl, ?_⟩
            conv => whnf
            rw [e0]
            refine ⟨(i + 1, none), [(5, 7)], [], ?_, ⟨q', fun z hz => ?_⟩, by show T.length - (i + 1) < T.length - i; omega⟩
            · ((repeat' (first | exact trivial | exact .inl (DLe.refl _) | exact .inl (DLe.nil _ _) | (refine .inr ⟨rfl, _, ?_, rfl⟩; rfl) | exact rfl | exact .inl rfl | exact .inr ⟨rfl, rfl, rfl, rfl⟩ | exact Nat.zero_le _ | constructor)) <;> first | exact hX1 _ _ _ | exact hX2 _ _ _)
            · rw [List.take_add_one, hy, Option.toList_some] at hz
              rcases List.mem_append.1 hz with hz | hz
              · exact hp z hz
              · rw [List.mem_singleton.1 hz]; exact hlt
        · have q2' := of_decide_eq_false q2
          have hlt : ¬ keyN x.key < keyN y.key := fun h => by rcases hkl.1 h with h | ⟨h, _⟩; exact q1' h; exact q2' h
          conv => whnf
          refine ⟨rfl, ⟨Int.natCast_nonneg _, Int.ofNat_lt.2 q'⟩, ?_⟩
          conv => whnf
          refine ⟨rfl, q', fun z hz => ?_⟩
          obtain rfl : y = z := by rw [Int.toNat_natCast, hy] at hz; injection hz
          conv => whnf
          (refine ⟨Nat.le_of_ble_eq_true rfl, ?_⟩; conv => whnf)
          refine ⟨Pl, oneC c, outP T x (i + 1) none, by rw [← hno, List.map_append]; rfl, fun _ => rfl, by have := out_len (x := x) (p := none) (show i + 1 ≤ T.length from q'); omega, by have := out_len (x := x) (p := none) (show i + 1 ≤ T.length from q'); show (outP T x (i + 1) none).length * 64 ≤ _; omega, rfl, ?_⟩
          conv => whnf
          rw [e0]
          refine ⟨(i + 1, none), [(5, 7)], [], ?_, ⟨q', fun z hz => ?_⟩, by show T.length - (i + 1) < T.length - i; omega⟩
          · ((repeat' (first | exact trivial | exact .inl (DLe.refl _) | exact .inl (DLe.nil _ _) | (refine .inr ⟨rfl, _, ?_, rfl⟩; rfl) | exact rfl | exact .inl rfl | exact .inr ⟨rfl, rfl, rfl, rfl⟩ | exact Nat.zero_le _ | constructor)) <;> first | exact hX1 _ _ _ | exact hX2 _ _ _)
          · rw [List.take_add_one, hy, Option.toList_some] at hz
            rcases List.mem_append.1 hz with hz | hz
            · exact hp z hz
            · rw [List.mem_singleton.1 hz]; exact hlt
  · have q' : i = T.length := by have := of_decide_eq_false q; omega
    subst q'
    cases p with
    | some t =>
      have ho := out_all hp
      conv => whnf
      rw [ho]
      refine ⟨[(3, 5)], [], .tup [], [(0, .cells 61 (cfgC c ++ [intD now, .grow 3])), (1, X1), (2, X2), (3, .grow Pl 110 12 (oneC c) (insT x T))], 4, ?_, hK _⟩
      ((repeat' (first | exact trivial | exact .inl (DLe.refl _) | exact .inl (DLe.nil _ _) | (refine .inr ⟨rfl, _, ?_, rfl⟩; rfl) | exact rfl | exact .inl rfl | exact .inr ⟨rfl, rfl, rfl, rfl⟩ | exact Nat.zero_le _ | constructor)) <;> first | exact hX1 _ _ _ | exact hX2 _ _ _)
    | none =>
      have hp : ∀ y ∈ T.take T.length, ¬ keyN x.key < keyN y.key := hp
      rw [List.take_length] at hp
      have ho : outP T x T.length none ++ [x] = insT x T := by
        show T.take T.length ++ [x] = _
        rw [List.take_length, insT_end hp]
      have hil : (insT x T).length = T.length + 1 := insT_len _ _
      conv => whnf
      (refine ⟨Nat.le_of_ble_eq_true rfl, ?_⟩; conv => whnf)
      refine ⟨Pl, oneC c, insT x T, by rw [← ho, List.map_append]; rfl, fun _ => rfl, by omega, by show (insT x T).length * 64 ≤ _; omega, rfl, ?_⟩
      conv => whnf
      refine ⟨[(3, 6)], [], .tup [], [(0, .cells 61 (cfgC c ++ [intD now, .grow 3])), (1, X1), (2, X2), (3, .grow Pl 110 12 (oneC c) (insT x T))], 4, ?_, hK _⟩
      ((repeat' (first | exact trivial | exact .inl (DLe.refl _) | exact .inl (DLe.nil _ _) | (refine .inr ⟨rfl, _, ?_, rfl⟩; rfl) | exact rfl | exact .inl rfl | exact .inr ⟨rfl, rfl, rfl, rfl⟩ | exact Nat.zero_le _ | constructor)) <;> first | exact hX1 _ _ _ | exact hX2 _ _ _)

set_option maxHeartbeats 16000000 in
theorem drop4_vc (F : List (Nat × D)) (G : List Nat × Nat) (X1 X2 : LO) (c : Nat → Int) (now : Int) (T : List Pl) (t : Nat) (hT : T.length ≤ 100000) {K : D → St → Prop} (hF : F.all (fun p => cutOk 6 3 p.2) = true) (hG : Nat.ble G.2 3 = true) (hX1 : ∀ r z n, LOLe r z n X1 X1) (hX2 : ∀ r z n, LOLe r z n X2 X2)
    (hK : ∀ d, K d ⟨F, [(0, .cells 61 (cfgC c ++ [intD now, .grow 3])), (1, X1), (2, X2), (3, .grow Pl 110 12 (oneC c) (T.eraseIdx t))], 4, G⟩) : CallVC Tryz.prog false 75 [.loc 0 0, intD t] ⟨F, [(0, .cells 61 (cfgC c ++ [intD now, .grow 3])), (1, X1), (2, X2), (3, .grow Pl 110 12 (oneC c) T)], 4, G⟩ K := by
  refine toInQ 3 [] Tryz.func75 rfl (by kernel_rfl) (Nat.le_of_ble_eq_true rfl) (by decide) hG rfl hF ?_
  conv => whnf
  refine ⟨Nat, fun i => ⟨[(5, intD i), (4, .grow 4), (1, intD t), (0, .loc 0 0)], (4, .grow Pl 110 12 (oneC c) ((T.take i).eraseIdx t)) :: [(0, .cells 61 (cfgC c ++ [intD now, .grow 3])), (1, X1), (2, X2), (3, .grow Pl 110 12 (oneC c) T)], 5, (upto 3 0, 3)⟩,
    fun i => i ≤ T.length, fun i => T.length - i, ⟨0, [], [4], ?_, Nat.zero_le _⟩, ?_⟩
  · ((repeat' (first | exact trivial | exact .inl (DLe.refl _) | exact .inl (DLe.nil _ _) | (refine .inr ⟨rfl, _, ?_, rfl⟩; rfl) | exact rfl | exact .inl rfl | exact .inr ⟨rfl, rfl, rfl, rfl⟩ | exact Nat.zero_le _ | constructor)) <;> first | exact hX1 _ _ _ | exact hX2 _ _ _)
  rintro i hi
  dsimp only at hi ⊢
  have e0 : IntKind.i64.wrap ((i : Int) + 1) = ((i + 1 : Nat) : Int) := by rw [IntWalk.i64_in _ (by omega)]; omega
  conv => whnf
  refine Fork.intro (fun q => ?_) (fun q => ?_)
  · have q' : i < T.length := by have := of_decide_eq_true q; omega
    obtain ⟨y, hy⟩ : ∃ y, T[i]? = some y := ⟨_, List.getElem?_eq_getElem q'⟩
    have htk : T.take (i + 1) = T.take i ++ [y] := by rw [List.take_add_one, hy]; rfl
    have hkl : (T.take i).length = i := by rw [List.length_take]; omega
    have hel : ((T.take i).eraseIdx t).length ≤ i := by
      have := List.length_eraseIdx_le (T.take i) t
      omega
    conv => whnf
    refine Fork.intro (fun q2 => ?_) (fun q2 => ?_)
    · have hne : i ≠ t := by
        have : decide ((i : Int) = t) = false := by simpa using q2
        have := of_decide_eq_false this
        omega
      have hstep : (T.take (i + 1)).eraseIdx t = (T.take i).eraseIdx t ++ [y] := by
        rw [htk]
        rcases Nat.lt_or_gt_of_ne hne with h | h
        · rw [List.eraseIdx_of_length_le (by simp; omega), List.eraseIdx_of_length_le (by omega)]
        · rw [List.eraseIdx_append_of_lt_length (by omega)]
      conv => whnf
      refine ⟨rfl, ⟨Int.natCast_nonneg _, Int.ofNat_lt.2 q'⟩, ?_⟩
      conv => whnf
      refine ⟨rfl, q', fun z hz => ?_⟩
      obtain rfl : y = z := by rw [Int.toNat_natCast, hy] at hz; injection hz
      conv => whnf
      (refine ⟨Nat.le_of_ble_eq_true rfl, ?_⟩; conv => whnf)
      refine ⟨Pl, oneC c, (T.take (i + 1)).eraseIdx t, by rw [hstep, List.map_append]; rfl, fun _ => rfl, by rw [hstep, List.length_append]; show _ + 1 ≤ _; omega, by rw [hstep, List.length_append]; show (_ + 1) * 64 ≤ _; omega, rfl, ?_⟩
      conv => whnf
      rw [e0]
      refine ⟨i + 1, [(4, 5)], [], ?_, q', by show T.length - (i + 1) < T.length - i; omega⟩
      ((repeat' (first | exact trivial | exact .inl (DLe.refl _) | exact .inl (DLe.nil _ _) | (refine .inr ⟨rfl, _, ?_, rfl⟩; rfl) | exact rfl | exact .inl rfl | exact .inr ⟨rfl, rfl, rfl, rfl⟩ | exact Nat.zero_le _ | constructor)) <;> first | exact hX1 _ _ _ | exact hX2 _ _ _)
    · have hkq : i = t := by
        have : decide ((i : Int) = t) = true := by simpa using q2
        have := of_decide_eq_true this
        omega
      have hstep : (T.take (i + 1)).eraseIdx t = (T.take i).eraseIdx t := by
        rw [htk, ← hkq, List.eraseIdx_of_length_le (l := T.take i) (by omega), List.eraseIdx_append_of_length_le (by omega), hkl, Nat.sub_self]
        simp
      rw [← hstep]
      conv => whnf
      rw [e0]
      refine ⟨i + 1, [], [], ?_, q', by show T.length - (i + 1) < T.length - i; omega⟩
      ((repeat' (first | exact trivial | exact .inl (DLe.refl _) | exact .inl (DLe.nil _ _) | (refine .inr ⟨rfl, _, ?_, rfl⟩; rfl) | exact rfl | exact .inl rfl | exact .inr ⟨rfl, rfl, rfl, rfl⟩ | exact Nat.zero_le _ | constructor)) <;> first | exact hX1 _ _ _ | exact hX2 _ _ _)
  · have q' : i = T.length := by have := of_decide_eq_false q; omega
    subst q'
    rw [List.take_length]
    conv => whnf
    refine ⟨[(3, 4)], [], .tup [], [(0, .cells 61 (cfgC c ++ [intD now, .grow 3])), (1, X1), (2, X2), (3, .grow Pl 110 12 (oneC c) (T.eraseIdx t))], 4, ?_, hK _⟩
    ((repeat' (first | exact trivial | exact .inl (DLe.refl _) | exact .inl (DLe.nil _ _) | (refine .inr ⟨rfl, _, ?_, rfl⟩; rfl) | exact rfl | exact .inl rfl | exact .inr ⟨rfl, rfl, rfl, rfl⟩ | exact Nat.zero_le _ | constructor)) <;> first | exact hX1 _ _ _ | exact hX2 _ _ _)
end Go.Proofs.YtfepckbhnghpeaaGreat.V
namespace Go.Proofs.YtfepckbhnghpeaaGreat.V
open Go.RowKit
attribute [local irreducible] Fn FnN OpVC ArC FnR ArL Ob ObS NewS

set_option maxHeartbeats 16000000 in
theorem rlearn_obs (c : Nat → Int) (now : Int) (T : List Pl) (k : Int × Int) (m : Nat → Int) (add : Bool) (hk : keyR k) (hs : SortT T) (hT : T.length ≤ 90000) : ObS Tryz.prog 46 (qcA c now T) [.agg (plC k), .agg (macC m), boolD add] fun d A' => d = .tup [wsR (learnT c now T k m add).1.1, boolD (learnT c now T k m add).1.2] ∧ A' = qcA c now (learnT c now T k m add).2 := by
  refine obsOfQ [(8, [0, 1, 2, 3, 4, 5, 6, 7, 5008])] Tryz.func46 rfl (by kernel_rfl) (Nat.le_of_ble_eq_true rfl) ?_
  rintro _ nx ⟨rfl, hnx⟩
  refine ⟨[], [], ⟨enumD (.loc 0 0 :: [.agg (plC k), .agg (macC m), boolD add]) 0, qcH c now T, 2, ([0], 1)⟩, ?_, ?_⟩
  · repeat' (first | exact trivial | exact .inl (DLe.refl _) | exact .inl (DLe.nil _ _) | (refine .inr ⟨rfl, _, ?_, rfl⟩; rfl) | exact rfl | exact .inl rfl | exact .inr ⟨rfl, rfl, rfl, rfl⟩ | exact Nat.zero_le _ | constructor)
  have hf := rfind_fn c now T k (by omega)
  conv => whnf
  refine CallVC.look hf rfl ?_
  rintro _ (⟨j, x, hx, hxk, rfl⟩ | ⟨hno, rfl⟩)
  · have hjl := (List.getElem?_eq_some_iff.1 hx).1
    have hft : findT T k = some x := by rw [← hxk]; exact findT_some (sort_keys hs) (List.mem_of_getElem? hx)
    have hlt : learnT c now T k m add = ((x.ws, true), updT T ⟨k.1, k.2, true, m, 0, now + clampW (c 29), []⟩) := by unfold learnT; rw [hft]
    rw [hlt]
    have hel : (T.eraseIdx j).length ≤ 90000 := Nat.le_trans (List.length_eraseIdx_le _ _) hT
    have hse : SortT (T.eraseIdx j) := ⟨fun y hy => hs.1 y ((List.eraseIdx_sublist T j).subset hy), hs.2.sublist (List.eraseIdx_sublist T j)⟩
    have hup := insT_upd hs (y := ⟨k.1, k.2, true, m, 0, now + clampW (c 29), []⟩) hx hxk.symm
    have hsn : sinceT c ⟨k.1, k.2, true, m, 0, now + clampW (c 29), []⟩ = now := by unfold sinceT; dsimp only; omega
    conv => whnf
    refine ⟨rfl, ⟨Int.natCast_nonneg _, Int.ofNat_lt.2 hjl⟩, ?_⟩
    conv => whnf
    refine ⟨rfl, hjl, fun y hy => ?_⟩
    obtain rfl : x = y := by rw [Int.toNat_natCast, hx] at hy; injection hy
    conv => whnf
    refine CallVC.cov (args1 := [.loc 0 0, intD j]) [(3, 1), (1, 2), (2, 3)] [] ⟨[(11, wsR x.ws), (6, .loc 2 0), (5, .loc 1 0), (0, .loc 0 0)], [(0, .cells 61 (cfgC c ++ [intD now, .grow 3])), (1, .cells 81 (plC k)), (2, .cells 23 (macC m)), (3, .grow Pl 110 12 (oneC c) T)], 4, ([0], 1)⟩ ?_ ?_ (drop4_vc _ _ _ _ c now T j (by omega) rfl rfl (hX39 k) (hX23 m) fun dd => ?_)
    · repeat' (first | exact trivial | exact .inl (DLe.refl _) | exact .inl (DLe.nil _ _) | (refine .inr ⟨rfl, _, ?_, rfl⟩; rfl) | exact rfl | exact .inl rfl | exact .inr ⟨rfl, rfl, rfl, rfl⟩ | exact Nat.zero_le _ | constructor)
    · repeat' (first | exact trivial | exact .inl (DLe.refl _) | exact .inl (DLe.nil _ _) | (refine .inr ⟨rfl, _, ?_, rfl⟩; rfl) | exact rfl | exact .inl rfl | exact .inr ⟨rfl, rfl, rfl, rfl⟩ | exact Nat.zero_le _ | constructor)
    conv => whnf
    refine CallVC.cov (args1 := [.loc 0 0, .agg (oneC c ⟨k.1, k.2, true, m, 0, now + clampW (c 29), []⟩)]) [] [] ⟨[(11, wsR x.ws)], [(0, .cells 61 (cfgC c ++ [intD now, .grow 3])), (1, .cells 81 (plC k)), (2, .cells 23 (macC m)), (3, .grow Pl 110 12 (oneC c) (T.eraseIdx j))], 4, ([0], 1)⟩ ?_ ⟨.inl (DLe.refl _), .inl ?_, trivial⟩ (put4_vc _ _ _ _ c now (T.eraseIdx j) ⟨k.1, k.2, true, m, 0, now + clampW (c 29), []⟩ (by omega) hse hk rfl rfl (hX39 k) (hX23 m) fun dd => ?_)
    · repeat' (first | exact trivial | exact .inl (DLe.refl _) | exact .inl (DLe.nil _ _) | (refine .inr ⟨rfl, _, ?_, rfl⟩; rfl) | exact rfl | exact .inl rfl | exact .inr ⟨rfl, rfl, rfl, rfl⟩ | exact Nat.zero_le _ | constructor)
    · exact dleAggQ ⟨DLe.refl _, DLe.refl _, DLe.refl _, DLe.refl _, DLe.refl _, DLe.refl _, DLe.refl _, DLe.refl _, DLe.refl _, DLe.refl _, DLe.of_eq (by rw [hsn]; rfl), DLe.nil _ _, trivial⟩
    rw [hup]
    conv => whnf
    refine ⟨[(1, 3)], [], .tup [wsR x.ws, boolD true], qcH c now (updT T ⟨k.1, k.2, true, m, 0, now + clampW (c 29), []⟩), [], 2, ?_, rfl, qcF c now _, ⟨rfl, Nat.le_refl _⟩, rfl, rfl⟩
    repeat' (first | exact trivial | exact .inl (DLe.refl _) | exact .inl (DLe.nil _ _) | (refine .inr ⟨rfl, _, ?_, rfl⟩; rfl) | exact rfl | exact .inl rfl | exact .inr ⟨rfl, rfl, rfl, rfl⟩ | exact Nat.zero_le _ | constructor)
  · have hft : findT T k = none := findT_none hno
    have hup : ∀ y ∈ T, y.key ≠ (⟨k.1, k.2, true, m, 0, now + clampW (c 29), []⟩ : Pl).key := hno
    have hsn : sinceT c ⟨k.1, k.2, true, m, 0, now + clampW (c 29), []⟩ = now := by unfold sinceT; dsimp only; omega
    cases add with
    | false =>
      have hlt : learnT c now T k m false = (([], false), T) := by unfold learnT; rw [hft]
      rw [hlt]
      conv => whnf
      refine ⟨[], [], .tup [wsR [], boolD false], qcH c now T, [], 2, ?_, rfl, qcF c now _, ⟨rfl, Nat.le_refl _⟩, rfl, rfl⟩
      repeat' (first | exact trivial | exact .inl (DLe.refl _) | exact .inl (DLe.nil _ _) | (refine .inr ⟨rfl, _, ?_, rfl⟩; rfl) | exact rfl | exact .inl rfl | exact .inr ⟨rfl, rfl, rfl, rfl⟩ | exact Nat.zero_le _ | constructor)
      exact dleTupQ ⟨DLe.nil _ _, DLe.refl _, trivial⟩
    | true =>
      cases hq2 : decide ((T.length : Int) ≥ c 27) with
      | true =>
        have hlt : learnT c now T k m true = (([], false), T) := by unfold learnT; rw [hft]; dsimp only; rw [hq2]
        rw [hlt]
        have hq2' : decide ((T.length : Int) ≥ c 27) = true := hq2
        conv => whnf
        rw [hq2']
        conv => whnf
        refine ⟨[], [], .tup [wsR [], boolD false], qcH c now T, [], 2, ?_, rfl, qcF c now _, ⟨rfl, Nat.le_refl _⟩, rfl, rfl⟩
        repeat' (first | exact trivial | exact .inl (DLe.refl _) | exact .inl (DLe.nil _ _) | (refine .inr ⟨rfl, _, ?_, rfl⟩; rfl) | exact rfl | exact .inl rfl | exact .inr ⟨rfl, rfl, rfl, rfl⟩ | exact Nat.zero_le _ | constructor)
        exact dleTupQ ⟨DLe.nil _ _, DLe.refl _, trivial⟩
      | false =>
        have hlt : learnT c now T k m true = (([], true), insT ⟨k.1, k.2, true, m, 0, now + clampW (c 29), []⟩ T) := by unfold learnT; rw [hft]; dsimp only; rw [hq2]
        rw [hlt]
        have hq2' : decide ((T.length : Int) ≥ c 27) = false := hq2
        conv => whnf
        rw [hq2']
        conv => whnf
        refine CallVC.cov (args1 := [.loc 0 0, .agg (oneC c ⟨k.1, k.2, true, m, 0, now + clampW (c 29), []⟩)]) [(3, 1), (1, 2), (2, 3)] [] ⟨[(11, .v (.slice none 0 0))], [(0, .cells 61 (cfgC c ++ [intD now, .grow 3])), (1, .cells 81 (plC k)), (2, .cells 23 (macC m)), (3, .grow Pl 110 12 (oneC c) T)], 4, ([0], 1)⟩ ?_ ⟨.inl (DLe.refl _), .inl ?_, trivial⟩ (put4_vc _ _ _ _ c now T ⟨k.1, k.2, true, m, 0, now + clampW (c 29), []⟩ (by omega) hs hk rfl rfl (hX39 k) (hX23 m) fun dd => ?_)
        · repeat' (first | exact trivial | exact .inl (DLe.refl _) | exact .inl (DLe.nil _ _) | (refine .inr ⟨rfl, _, ?_, rfl⟩; rfl) | exact rfl | exact .inl rfl | exact .inr ⟨rfl, rfl, rfl, rfl⟩ | exact Nat.zero_le _ | constructor)
        · exact dleAggQ ⟨DLe.refl _, DLe.refl _, DLe.refl _, DLe.refl _, DLe.refl _, DLe.refl _, DLe.refl _, DLe.refl _, DLe.refl _, DLe.refl _, DLe.of_eq (by rw [hsn]; rfl), DLe.nil _ _, trivial⟩
        conv => whnf
        refine ⟨[(1, 3)], [], .tup [wsR [], boolD true], qcH c now (insT ⟨k.1, k.2, true, m, 0, now + clampW (c 29), []⟩ T), [], 2, ?_, rfl, qcF c now _, ⟨rfl, Nat.le_refl _⟩, rfl, rfl⟩
        repeat' (first | exact trivial | exact .inl (DLe.refl _) | exact .inl (DLe.nil _ _) | (refine .inr ⟨rfl, _, ?_, rfl⟩; rfl) | exact rfl | exact .inl rfl | exact .inr ⟨rfl, rfl, rfl, rfl⟩ | exact Nat.zero_le _ | constructor)
        exact dleTupQ ⟨DLe.nil _ _, DLe.refl _, trivial⟩
end Go.Proofs.YtfepckbhnghpeaaGreat.V
namespace Go.Proofs.YtfepckbhnghpeaaGreat.V
open Go.RowKit
attribute [local irreducible] Fn FnN OpVC ArC FnR ArL Ob ObS NewS

theorem add0_fn (a : List Nat) (ha : a.length ≤ 1000000) : Fn Tryz.prog 66 [octR a, .v (.slice none 0 0)] fun d => d = octR a := by
  refine fnOf [] Tryz.func66 rfl (by kernel_rfl) (Nat.le_of_ble_eq_true rfl) ?_
  conv => whnf
  refine ⟨Nat, octE, a, rfl, fun _ => rfl, by omega, (by show a.length * 1 ≤ _; omega), rfl, ?_⟩
  conv => whnf
  refine ⟨Nat, octE, a, (List.append_nil _).symm, fun _ => rfl, by omega, (by show a.length * 1 ≤ _; omega), rfl, ?_⟩
  conv => whnf
theorem set_upd {T : List Pl} (hs : SortT T) {j : Nat} {x y : Pl} (hx : T[j]? = some x) (hk : y.key = x.key) : T.set ((j : Int).toNat) y = updT T y := by
  obtain ⟨hl, hxx⟩ := List.getElem?_eq_some_iff.1 hx
  have e : T = T.take j ++ x :: T.drop (j + 1) := by
    conv => lhs; rw [← List.take_append_drop j T]
    rw [List.drop_eq_getElem_cons hl, hxx]
  have hj : (T.take j).length = j := by rw [List.length_take]; omega
  generalize T.take j = A at e hj
  generalize T.drop (j + 1) = B at e
  subst e
  rw [updT_split (sort_keys hs) hk, Int.toNat_natCast, List.set_append_right _ _ (by omega), hj, Nat.sub_self]
  rfl
theorem wsE_flat : ∀ (y : List Nat) (d : D), d ∈ wsE y → cutOk 6 0 d = true := fun y d hd => by
  rw [List.mem_singleton.1 hd]
  rfl
set_option maxHeartbeats 16000000 in
theorem rwant_obs (c : Nat → Int) (now : Int) (T : List Pl) (k : Int × Int) (b : List Nat) (hk : keyR k) (hb : b.length ≤ 100000) (hs : SortT T) (hT : T.length ≤ 90000) (hw : waitsT T ≤ 90000) : ObS Tryz.prog 38 (qcA c now T) [.agg (plC k), octR b] fun d A' => d = .tup [boolD (wantT c now T k b).1.1, intD (wantT c now T k b).1.2] ∧ A' = qcA c now (wantT c now T k b).2 := by
  refine obsOfQ [(4, [0, 2, 3, 4, 5, 6, 1, 7, 8, 9, 10, 11, 12, 13, 14, 15, 16, 17, 18, 19, 20, 21, 22, 23, 24]), (7, [0, 1, 2, 3, 4, 5, 6, 7, 8, 9, 5010]), (11, [1001, 0, 1, 2, 4, 5, 6])] Tryz.func38 rfl (by kernel_rfl) (Nat.le_of_ble_eq_true rfl) ?_
  rintro _ nx ⟨rfl, hnx⟩
  refine ⟨[], [], ⟨enumD (.loc 0 0 :: [.agg (plC k), octR b]) 0, qcH c now T, 2, ([0], 1)⟩, ?_, ?_⟩
  · repeat' (first | exact trivial | exact .inl (DLe.refl _) | exact .inl (DLe.nil _ _) | (refine .inr ⟨rfl, _, ?_, rfl⟩; rfl) | exact rfl | exact .inl rfl | exact .inr ⟨rfl, rfl, rfl, rfl⟩ | exact Nat.zero_le _ | constructor)
  have hf := rfind_fn c now T k (by omega)
  have hwt := rwaits_fn c now T (by omega) (by omega)
  generalize hn : waitsT T = n at hw hwt
  have hadd := add0_fn b (by omega)
  conv => whnf
  refine CallVC.look hf rfl ?_
  rintro _ (⟨j, x, hx, hxk, rfl⟩ | ⟨hno, rfl⟩)
  · have hjl := (List.getElem?_eq_some_iff.1 hx).1
    have hft : findT T k = some x := by rw [← hxk]; exact findT_some (sort_keys hs) (List.mem_of_getElem? hx)
    conv => whnf
    refine ⟨rfl, ⟨Int.natCast_nonneg _, Int.ofNat_lt.2 hjl⟩, ?_⟩
    conv => whnf
    refine ⟨rfl, hjl, fun y hy => ?_⟩
    obtain rfl : x = y := by rw [Int.toNat_natCast, hx] at hy; injection hy
    conv => whnf
    cases hkn : x.known with
    | true =>
      have hlt := wantT_known (c := c) (now := now) (b := b) hft hkn
      conv => whnf
      refine ⟨[], [], .tup [boolD false, intD 10], qcH c now T, [], 2, ?_, rfl, qcF c now _, ⟨rfl, Nat.le_refl _⟩, by rw [hlt]; rfl, by rw [hlt]⟩
      repeat' (first | exact trivial | exact .inl (DLe.refl _) | exact .inl (DLe.nil _ _) | (refine .inr ⟨rfl, _, ?_, rfl⟩; rfl) | exact rfl | exact .inl rfl | exact .inr ⟨rfl, rfl, rfl, rfl⟩ | exact Nat.zero_le _ | constructor)
    | false =>
      conv => whnf
      refine CallVC.look hwt rfl ?_
      rintro _ rfl
      cases hge : decide ((n : Int) ≥ c 28) with
      | true =>
        have hlt := wantT_full (now := now) (b := b) hft hkn (show decide ((waitsT T : Int) ≥ c 28) = true by rw [hn]; exact hge)
        have hge' : decide ((n : Int) ≥ c 28) = true := hge
        conv => whnf
        refine Fork.intro (fun _ => ?_) (fun q => absurd (of_decide_eq_true hge') (of_decide_eq_false q))
        conv => whnf
        refine ⟨[], [], .tup [boolD false, intD 7], qcH c now T, [], 2, ?_, rfl, qcF c now _, ⟨rfl, Nat.le_refl _⟩, by rw [hlt]; rfl, by rw [hlt]⟩
        repeat' (first | exact trivial | exact .inl (DLe.refl _) | exact .inl (DLe.nil _ _) | (refine .inr ⟨rfl, _, ?_, rfl⟩; rfl) | exact rfl | exact .inl rfl | exact .inr ⟨rfl, rfl, rfl, rfl⟩ | exact Nat.zero_le _ | constructor)
      | false =>
        have hlt := wantT_old (now := now) (b := b) hft hkn (show decide ((waitsT T : Int) ≥ c 28) = false by rw [hn]; exact hge)
        have hge' : decide ((n : Int) ≥ c 28) = false := hge
        conv => whnf
        refine Fork.intro (fun q => absurd (of_decide_eq_true q) (of_decide_eq_false hge')) (fun _ => ?_)
        conv => whnf
        refine ⟨rfl, ⟨Int.natCast_nonneg _, Int.ofNat_lt.2 hjl⟩, ?_⟩
        conv => whnf
        refine ⟨rfl, hjl, fun y hy => ?_⟩
        obtain rfl : x = y := by rw [Int.toNat_natCast, hx] at hy; injection hy
        have hwx : x.ws.length ≤ 90000 := by
          have := waitsT_mem (List.mem_of_getElem? hx)
          omega
        conv => whnf
        have hset : T.set ((j : Int).toNat) { x with ws := x.ws ++ [b] } = updT T { x with ws := x.ws ++ [b] } := set_upd hs hx rfl
        have hone : oneC c { x with ws := x.ws ++ [b] } = [intD x.nic, u32D x.next, boolD x.known, u8D (x.mac 0), u8D (x.mac 1), u8D (x.mac 2), u8D (x.mac 3), u8D (x.mac 4), u8D (x.mac 5), intD x.tries, intD (sinceT c x), wsR (x.ws ++ [b])] := rfl
        refine ⟨List Nat, wsE, x.ws, rfl, fun _ => rfl, by omega, by show x.ws.length * 24 ≤ _; omega, rfl, ?_⟩
        conv => whnf
        refine ⟨Unit, fun _ => ⟨[(0, .loc 0 0)], qcH c now (updT T { x with ws := x.ws ++ [b] }), 4, ([0], 1)⟩, ?_, fun _ => ?_⟩
        · refine ⟨?_, ?_, trivial⟩
          · conv => whnf
            refine ⟨?_, trivial⟩
            · conv => whnf
              refine CallVC.pure hadd rfl ?_
              rintro _ rfl
              conv => whnf
              refine ⟨?_, trivial⟩
              · conv => whnf
                refine ⟨by decide, ?_⟩
                conv => whnf
                refine ⟨?_, trivial⟩
                · conv => whnf
                  refine ⟨List Nat, wsE, x.ws ++ [b], by rw [List.map_append]; rfl, fun _ => rfl, by rw [List.length_append]; show x.ws.length + 1 ≤ _; omega, by rw [List.length_append]; show (x.ws.length + 1) * 24 ≤ _; omega, rfl, ?_⟩
                  conv => whnf
                  refine ⟨?_, trivial⟩
                  · conv => whnf
                    refine ⟨rfl, ⟨Int.natCast_nonneg _, Int.ofNat_lt.2 hjl⟩, ?_⟩
                    conv => whnf
                    refine ⟨?_, trivial⟩
                    · conv => whnf
                      refine ⟨?_, trivial⟩
                      · conv => whnf
                        refine op_freeze (r := 5) rfl ?_
                        refine loud_store ttH rfl ?_
                        conv => whnf
                        refine ⟨rfl, hjl, fun z hz => ?_⟩
                        obtain rfl : x = z := by rw [Int.toNat_natCast, hx] at hz; injection hz
                        conv => whnf
                        refine ⟨rfl, { x with ws := x.ws ++ [b] }, hone, ?_⟩
                        conv => whnf
                        rw [hset]
                        refine ⟨(), [], [], ?_⟩
                        repeat' (first | exact trivial | exact .inl (DLe.refl _) | exact .inl (DLe.nil _ _) | (refine .inr ⟨rfl, _, ?_, rfl⟩; rfl) | exact rfl | exact .inl rfl | exact .inr ⟨rfl, rfl, rfl, rfl⟩ | exact Nat.zero_le _ | constructor)
          · conv => whnf
            refine CallVC.pure hadd rfl ?_
            rintro _ rfl
            conv => whnf
            refine ⟨?_, ?_, trivial⟩
            · conv => whnf
              refine ⟨?_, trivial⟩
              · conv => whnf
                refine ⟨by decide, ?_⟩
                conv => whnf
                refine ⟨?_, trivial⟩
                · conv => whnf
                  refine ⟨List Nat, wsE, x.ws ++ [b], by rw [List.map_append]; rfl, fun _ => rfl, by rw [List.length_append]; show x.ws.length + 1 ≤ _; omega, by rw [List.length_append]; show (x.ws.length + 1) * 24 ≤ _; omega, rfl, ?_⟩
                  conv => whnf
                  refine ⟨?_, trivial⟩
                  · conv => whnf
                    refine ⟨rfl, ⟨Int.natCast_nonneg _, Int.ofNat_lt.2 hjl⟩, ?_⟩
                    conv => whnf
                    refine ⟨?_, trivial⟩
                    · conv => whnf
                      refine ⟨?_, trivial⟩
                      · conv => whnf
                        refine op_freeze (r := 5) rfl ?_
                        refine loud_store ttH rfl ?_
                        conv => whnf
                        refine ⟨rfl, hjl, fun z hz => ?_⟩
                        obtain rfl : x = z := by rw [Int.toNat_natCast, hx] at hz; injection hz
                        conv => whnf
                        refine ⟨rfl, { x with ws := x.ws ++ [b] }, hone, ?_⟩
                        conv => whnf
                        rw [hset]
                        refine ⟨(), [], [], ?_⟩
                        repeat' (first | exact trivial | exact .inl (DLe.refl _) | exact .inl (DLe.nil _ _) | (refine .inr ⟨rfl, _, ?_, rfl⟩; rfl) | exact rfl | exact .inl rfl | exact .inr ⟨rfl, rfl, rfl, rfl⟩ | exact Nat.zero_le _ | constructor)
            · conv => whnf
              refine ⟨by decide, ?_⟩
              conv => whnf
              refine ⟨?_, ?_, trivial⟩
              · conv => whnf
                refine ⟨?_, trivial⟩
                · conv => whnf
                  refine ⟨List Nat, wsE, x.ws ++ [b], by rw [List.map_append]; rfl, fun _ => rfl, by rw [List.length_append]; show x.ws.length + 1 ≤ _; omega, by rw [List.length_append]; show (x.ws.length + 1) * 24 ≤ _; omega, rfl, ?_⟩
                  conv => whnf
                  refine ⟨?_, trivial⟩
                  · conv => whnf
                    refine ⟨rfl, ⟨Int.natCast_nonneg _, Int.ofNat_lt.2 hjl⟩, ?_⟩
                    conv => whnf
                    refine ⟨?_, trivial⟩
                    · conv => whnf
                      refine ⟨?_, trivial⟩
                      · conv => whnf
                        refine op_freeze (r := 5) rfl ?_
                        refine loud_store ttH rfl ?_
                        conv => whnf
                        refine ⟨rfl, hjl, fun z hz => ?_⟩
                        obtain rfl : x = z := by rw [Int.toNat_natCast, hx] at hz; injection hz
                        conv => whnf
                        refine ⟨rfl, { x with ws := x.ws ++ [b] }, hone, ?_⟩
                        conv => whnf
                        rw [hset]
                        refine ⟨(), [], [], ?_⟩
                        repeat' (first | exact trivial | exact .inl (DLe.refl _) | exact .inl (DLe.nil _ _) | (refine .inr ⟨rfl, _, ?_, rfl⟩; rfl) | exact rfl | exact .inl rfl | exact .inr ⟨rfl, rfl, rfl, rfl⟩ | exact Nat.zero_le _ | constructor)
              · conv => whnf
                refine ⟨List Nat, wsE, x.ws ++ [b], by rw [List.map_append]; rfl, fun _ => rfl, by rw [List.length_append]; show x.ws.length + 1 ≤ _; omega, by rw [List.length_append]; show (x.ws.length + 1) * 24 ≤ _; omega, rfl, ?_⟩
                conv => whnf
                refine ⟨?_, trivial⟩
                · conv => whnf
                  refine ⟨?_, trivial⟩
                  · conv => whnf
                    refine ⟨rfl, ⟨Int.natCast_nonneg _, Int.ofNat_lt.2 hjl⟩, ?_⟩
                    conv => whnf
                    refine ⟨?_, trivial⟩
                    · conv => whnf
                      refine ⟨?_, trivial⟩
                      · conv => whnf
                        refine op_freeze (r := 5) rfl ?_
                        refine loud_store ttH rfl ?_
                        conv => whnf
                        refine ⟨rfl, hjl, fun z hz => ?_⟩
                        obtain rfl : x = z := by rw [Int.toNat_natCast, hx] at hz; injection hz
                        conv => whnf
                        refine ⟨rfl, { x with ws := x.ws ++ [b] }, hone, ?_⟩
                        conv => whnf
                        rw [hset]
                        refine ⟨(), [], [], ?_⟩
                        repeat' (first | exact trivial | exact .inl (DLe.refl _) | exact .inl (DLe.nil _ _) | (refine .inr ⟨rfl, _, ?_, rfl⟩; rfl) | exact rfl | exact .inl rfl | exact .inr ⟨rfl, rfl, rfl, rfl⟩ | exact Nat.zero_le _ | constructor)
        · conv => whnf
          refine ⟨[], [], .tup [boolD false, intD 0], qcH c now (updT T { x with ws := x.ws ++ [b] }), [], 2, ?_, rfl, qcF c now _, ⟨rfl, Nat.le_refl _⟩, by rw [hlt]; rfl, by rw [hlt]⟩
          repeat' (first | exact trivial | exact .inl (DLe.refl _) | exact .inl (DLe.nil _ _) | (refine .inr ⟨rfl, _, ?_, rfl⟩; rfl) | exact rfl | exact .inl rfl | exact .inr ⟨rfl, rfl, rfl, rfl⟩ | exact Nat.zero_le _ | constructor)
  · have hft : findT T k = none := findT_none hno
    conv => whnf
    refine CallVC.look hwt rfl ?_
    rintro _ rfl
    cases hge : decide ((n : Int) ≥ c 28) with
    | true =>
      have hlt : wantT c now T k b = ((false, 7), T) := by unfold wantT; rw [hft, hn]; dsimp only; rw [hge]
      have hge' : decide ((n : Int) ≥ c 28) = true := hge
      conv => whnf
      refine Fork.intro (fun _ => ?_) (fun q => absurd (of_decide_eq_true hge') (of_decide_eq_false q))
      conv => whnf
      refine ⟨[], [], .tup [boolD false, intD 7], qcH c now T, [], 2, ?_, rfl, qcF c now _, ⟨rfl, Nat.le_refl _⟩, by rw [hlt]; rfl, by rw [hlt]⟩
      repeat' (first | exact trivial | exact .inl (DLe.refl _) | exact .inl (DLe.nil _ _) | (refine .inr ⟨rfl, _, ?_, rfl⟩; rfl) | exact rfl | exact .inl rfl | exact .inr ⟨rfl, rfl, rfl, rfl⟩ | exact Nat.zero_le _ | constructor)
    | false =>
      have hge' : decide ((n : Int) ≥ c 28) = false := hge
      cases hq2 : decide ((T.length : Int) ≥ c 27) with
      | true =>
        have hlt : wantT c now T k b = ((false, 7), T) := by unfold wantT; rw [hft, hn]; dsimp only; rw [hge, hq2]
        have hq2' : decide ((T.length : Int) ≥ c 27) = true := hq2
        conv => whnf
        refine Fork.intro (fun q => absurd (of_decide_eq_true q) (of_decide_eq_false hge')) (fun _ => ?_)
        conv => whnf
        refine Fork.intro (fun _ => ?_) (fun q => absurd (of_decide_eq_true hq2') (of_decide_eq_false q))
        conv => whnf
        refine ⟨[], [], .tup [boolD false, intD 7], qcH c now T, [], 2, ?_, rfl, qcF c now _, ⟨rfl, Nat.le_refl _⟩, by rw [hlt]; rfl, by rw [hlt]⟩
        repeat' (first | exact trivial | exact .inl (DLe.refl _) | exact .inl (DLe.nil _ _) | (refine .inr ⟨rfl, _, ?_, rfl⟩; rfl) | exact rfl | exact .inl rfl | exact .inr ⟨rfl, rfl, rfl, rfl⟩ | exact Nat.zero_le _ | constructor)
      | false =>
        have hlt : wantT c now T k b = ((true, 0), insT ⟨k.1, k.2, false, mac0, 1, now + clampW (c 30), [b]⟩ T) := by unfold wantT; rw [hft, hn]; dsimp only; rw [hge, hq2]
        have hq2' : decide ((T.length : Int) ≥ c 27) = false := hq2
        have hsn : sinceT c ⟨k.1, k.2, false, mac0, 1, now + clampW (c 30), [b]⟩ = now := by unfold sinceT; dsimp only; omega
        conv => whnf
        refine Fork.intro (fun q => absurd (of_decide_eq_true q) (of_decide_eq_false hge')) (fun _ => ?_)
        conv => whnf
        refine Fork.intro (fun q => absurd (of_decide_eq_true q) (of_decide_eq_false hq2')) (fun _ => ?_)
        conv => whnf
        refine CallVC.pure hadd rfl ?_
        rintro _ rfl
        conv => whnf
        refine ⟨by decide, ?_⟩
        conv => whnf
        refine CallVC.cov (args1 := [.loc 0 0, .agg (oneC c ⟨k.1, k.2, false, mac0, 1, now + clampW (c 30), [b]⟩)]) [(2, 1), (1, 2)] [] ⟨[], [(0, .cells 61 (cfgC c ++ [intD now, .grow 2])), (1, .cells 81 (plC k)), (2, .grow Pl 110 12 (oneC c) T)], 3, ([0], 1)⟩ ?_ ⟨.inl (DLe.refl _), .inl ?_, trivial⟩ (put3_vc _ _ _ c now T ⟨k.1, k.2, false, mac0, 1, now + clampW (c 30), [b]⟩ (by omega) hs hk rfl rfl (hX39 k) fun dd => ?_)
        · repeat' (first | exact trivial | exact .inl (DLe.refl _) | exact .inl (DLe.nil _ _) | (refine .inr ⟨rfl, _, ?_, rfl⟩; rfl) | exact rfl | exact .inl rfl | exact .inr ⟨rfl, rfl, rfl, rfl⟩ | exact Nat.zero_le _ | constructor)
        · exact dleAggQ ⟨DLe.refl _, DLe.refl _, DLe.refl _, DLe.refl _, DLe.refl _, DLe.refl _, DLe.refl _, DLe.refl _, DLe.refl _, DLe.refl _, DLe.of_eq (by rw [hsn]; rfl), dleLitQ (enc := wsE) (L := [b]) wsE_flat, trivial⟩
        conv => whnf
        refine ⟨[(1, 2)], [], .tup [boolD true, intD 0], qcH c now (insT ⟨k.1, k.2, false, mac0, 1, now + clampW (c 30), [b]⟩ T), [], 2, ?_, rfl, qcF c now _, ⟨rfl, Nat.le_refl _⟩, by rw [hlt]; rfl, by rw [hlt]⟩
        repeat' (first | exact trivial | exact .inl (DLe.refl _) | exact .inl (DLe.nil _ _) | (refine .inr ⟨rfl, _, ?_, rfl⟩; rfl) | exact rfl | exact .inl rfl | exact .inr ⟨rfl, rfl, rfl, rfl⟩ | exact Nat.zero_le _ | constructor)
end Go.Proofs.YtfepckbhnghpeaaGreat.V
