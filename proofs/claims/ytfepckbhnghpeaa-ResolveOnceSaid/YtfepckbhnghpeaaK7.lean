/-
  What a cache is in memory, as an arena; what it knows, as a row in order. No condition.
  The program's cache: looked at, made, by value. Conditions: it stands right.
  What a cache is in memory, when something in it turns; the row in order, when something in it turns. No condition.
  A frame waits: the program's, by value. Conditions: the cache stands right, not too much is known.
-/
import Derived.Test.YtfepckbhnghpeaaK2
import Derived.Test.YtfepckbhnghpeaaK4
import Derived.Test.YtfepckbhnghpeaaK19
import Derived.Test.YtfepckbhnghpeaaK9
namespace Go.Proofs.Ytfepckbhnghpeaa.V
open Go.RowKit

theorem arOf {f : FuncId} {fn : Func} {c : Code} (pl : Plans) (hfn : Try.prog.funcs[f]? = some fn) (hc : fn.body = some c) (hok : codeOk pl fn.ntmps c = true) {args : List D} {M : Ar} {Q : D → Ar → Prop} (hn : args.length ≤ fn.ntmps)
    (h : ∀ S, wpc Try.prog tt pl c ⟨enumD args 0, [(0, arL S M)], 1, ([], 0)⟩ fun e s' => endK e (resK tt s' fn.results.toList fun l => AEnd 0 Q s' (oneD l))) : ArC Try.prog f args M Q := arC_of_wpc ttH ebH mxH hfn hc hok hn h

/-! ### Lists of blocks -/
theorem lget_cons {β : Type 1} (k : Nat) (x : β) (r : List (Nat × β)) (i : Nat) : lget ((k, x) :: r) i = if i = k then some x else lget r i := by
  by_cases h : i = k
  · subst h; rw [lget_same, if_pos rfl]
  · rw [lget_ne _ _ h, if_neg h]
theorem upd_if (M : Ar) (g : Nat) (x : Option It) (k : Nat) : (M.upd g x) k = if k = g then x else M k := by
  by_cases h : k = g
  · subst h; rw [Ar.upd_same, if_pos rfl]
  · rw [Ar.upd_ne _ _ h, if_neg h]
theorem lget_none {β : Type 1} : ∀ {l : List (Nat × β)} {i : Nat}, lget l i = none ↔ i ∉ l.map (·.1)
  | [], i => by simp [lget]
  | (k, x) :: r, i => by
    rw [lget_cons]
    by_cases h : i = k
    · subst h; simp
    · rw [if_neg h, lget_none]; simp [h]
theorem lget_mem {β : Type 1} : ∀ {l : List (Nat × β)} {i : Nat} {x : β}, (l.map (·.1)).Nodup → (i, x) ∈ l → lget l i = some x
  | [], _, _, _, h => absurd h List.not_mem_nil
  | (k, y) :: r, i, x, hn, h => by
    rw [List.map_cons, List.nodup_cons] at hn
    rw [lget_cons]
    rcases List.mem_cons.1 h with h | h
    · injection h with h1 h2; subst h1 h2; rw [if_pos rfl]
    · rw [if_neg (fun e => hn.1 (List.mem_map.2 ⟨(i, x), h, e⟩)), lget_mem hn.2 h]
theorem lget_in {β : Type 1} : ∀ {l : List (Nat × β)} {i : Nat} {x : β}, lget l i = some x → (i, x) ∈ l
  | [], _, _, h => by cases h
  | (k, y) :: r, i, x, h => by
    rw [lget_cons] at h
    by_cases hk : i = k
    · rw [if_pos hk] at h; injection h with h; subst h hk; exact List.mem_cons_self
    · rw [if_neg hk] at h; exact List.mem_cons_of_mem _ (lget_in h)
theorem lget_perm {β : Type 1} {l l' : List (Nat × β)} (h : l.Perm l') (hn : (l.map (·.1)).Nodup) : lget l = lget l' := by
  funext i
  cases hq : lget l' i with
  | none => exact lget_none.2 fun hi => lget_none.1 hq ((h.map _).mem_iff.1 hi)
  | some x => exact lget_mem hn (h.mem_iff.2 (lget_in hq))

/-! ### Encodings -/
abbrev u16V (n : Int) : D := .v (.int .u16 n)
abbrev u64V (n : Int) : D := .v (.int .u64 n)
def cfgC (c : Nat → Int) : List D := [u8D (c 0), u8D (c 1), u8D (c 2), u8D (c 3), u8D (c 4), u8D (c 5), u8D (c 6), u8D (c 7), u8D (c 8), u8D (c 9), u8D (c 10), u8D (c 11), u32D (c 12), u32D (c 13), intD (c 14), intD (c 15), u32D (c 16), intD (c 17), u64V (c 18), u64V (c 19), u64V (c 20), u64V (c 21), u16V (c 22),
  intD (c 23), intD (c 24), intD (c 25), intD (c 26), intD (c 27), intD (c 28), intD (c 29), intD (c 30), intD (c 31), intD (c 32), intD (c 33), intD (c 34), intD (c 35), intD (c 36), intD (c 37), intD (c 38), intD (c 39)]
def macC (m : Nat → Int) : List D := [u8D (m 0), u8D (m 1), u8D (m 2), u8D (m 3), u8D (m 4), u8D (m 5)]
def placeV (a b : Int) : Value := .agg #[.int .i64 a, .int .u32 b]
def plC (x : Int × Int) : List D := [intD x.1, u32D x.2]
def wsE (b : List Nat) : List D := [octR b]
abbrev wsR (l : List (List Nat)) : D := .rows (List Nat) 1 wsE l

/-! ### What is known, as a row in order -/
structure Pl where
  nic : Int
  next : Int
  known : Bool
  mac : Nat → Int
  tries : Int
  due : Int
  ws : List (List Nat)
def Pl.key (x : Pl) : Int × Int := (x.nic, x.next)
def keyN (k : Int × Int) : Int := k.1 * 4294967296 + k.2
def keyR (k : Int × Int) : Prop := 0 ≤ k.2 ∧ k.2 < 4294967296
theorem keyN_inj {a b : Int × Int} (ha : keyR a) (hb : keyR b) (h : keyN a = keyN b) : a = b := by
  obtain ⟨a1, a2⟩ := a
  obtain ⟨b1, b2⟩ := b
  unfold keyN keyR at *
  dsimp only at *
  have : a1 = b1 := by omega
  subst this
  have : a2 = b2 := by omega
  subst this
  rfl
theorem keyN_lt {a b : Int × Int} (ha : keyR a) (hb : keyR b) : keyN a < keyN b ↔ (a.1 < b.1 ∨ (a.1 = b.1 ∧ a.2 < b.2)) := by
  unfold keyN keyR at *
  omega
def findT (T : List Pl) (k : Int × Int) : Option Pl := T.find? fun x => decide (x.key = k)
def waitsT : List Pl → Nat
  | [] => 0
  | x :: r => x.ws.length + waitsT r
def insT (x : Pl) : List Pl → List Pl
  | [] => [x]
  | y :: r => match decide (keyN x.key < keyN y.key) with
    | true => x :: y :: r
    | false => y :: insT x r
def updT (T : List Pl) (x : Pl) : List Pl := T.map fun y => match decide (y.key = x.key) with
  | true => x
  | false => y
def SortT (T : List Pl) : Prop := (∀ x ∈ T, keyR x.key) ∧ T.Pairwise fun a b => keyN a.key < keyN b.key
def clampW (n : Int) : Int := min (max n 1) 4095
def mac0 : Nat → Int := fun _ => 0
def wantT (c : Nat → Int) (now : Int) (T : List Pl) (k : Int × Int) (b : List Nat) : (Bool × Int) × List Pl :=
  match findT T k with
  | some x => match x.known with
    | true => ((false, 10), T)
    | false => match decide ((waitsT T : Int) ≥ c 28) with
      | true => ((false, 7), T)
      | false => ((false, 0), updT T { x with ws := x.ws ++ [b] })
  | none => match decide ((waitsT T : Int) ≥ c 28), decide ((T.length : Int) ≥ c 27) with
    | false, false => ((true, 0), insT ⟨k.1, k.2, false, mac0, 1, now + clampW (c 30), [b]⟩ T)
    | _, _ => ((false, 7), T)
def learnT (c : Nat → Int) (now : Int) (T : List Pl) (k : Int × Int) (m : Nat → Int) (add : Bool) : (List (List Nat) × Bool) × List Pl :=
  match findT T k with
  | some x => ((x.ws, true), updT T ⟨k.1, k.2, true, m, 0, now + clampW (c 29), []⟩)
  | none => match add, decide ((T.length : Int) ≥ c 27) with
    | true, false => (([], true), insT ⟨k.1, k.2, true, m, 0, now + clampW (c 29), []⟩ T)
    | _, _ => (([], false), T)
def tickX (c : Nat → Int) (now : Int) (x : Pl) : Option Pl :=
  match decide (x.due > now) with
  | true => some x
  | false => match !x.known && decide (x.tries < c 31) with
    | true => some { x with tries := x.tries + 1, due := now + clampW (c 30) }
    | false => none
def askX (c : Nat → Int) (now : Int) (x : Pl) : Bool := !decide (x.due > now) && (!x.known && decide (x.tries < c 31))
def lostX (c : Nat → Int) (now : Int) (x : Pl) : Nat := match tickX c now x with
  | some _ => 0
  | none => x.ws.length
def lostT (c : Nat → Int) (now : Int) : List Pl → Nat
  | [] => 0
  | x :: r => lostX c now x + lostT c now r
def asksT (c : Nat → Int) (now : Int) (T : List Pl) : List (Int × Int) := (T.filter (askX c now)).map Pl.key
def tickT (c : Nat → Int) (now : Int) (T : List Pl) : List Pl := T.filterMap (tickX c now)

/-! ### In memory -/
structure Pr where
  pl : Pl
  born : Nat
  g : Nat
  row : Option (Nat × Nat)
  rest : List Value
def prC (p : Pr) : List D := [boolD p.pl.known, u8D (p.pl.mac 0), u8D (p.pl.mac 1), u8D (p.pl.mac 2), u8D (p.pl.mac 3), u8D (p.pl.mac 4), u8D (p.pl.mac 5), intD p.pl.tries, intD p.pl.due, .v (slV p.row p.pl.ws.length)]
def prRow (p : Pr) : List (Nat × It) := match p.row with
  | none => []
  | some x => [(x.1, .cells 39 (rowC wsE p.pl.ws p.rest))]
def prItems (p : Pr) : List (Nat × It) := (p.g, .cells 117 (prC p)) :: prRow p
def entP (p : Pr) : MapEntry := { key := placeV p.pl.nic p.pl.next, val := .pointer (some ⟨p.g, 0, none⟩), born := p.born }
structure CDat where
  cg : Nat
  mg : Nat
  clk : Nat
  c : Nat → Int
  now : Int
  L : List Pr
def waitsL (L : List Pr) : Nat := waitsT (L.map Pr.pl)
def hdrC (d : CDat) : List D := cfgC d.c ++ [intD d.now, .v (.map (some d.mg)), intD (waitsL d.L)]
def mapO (d : CDat) : Obj := .map (d.L.map entP).toArray d.clk
def items (d : CDat) : List (Nat × It) := (d.cg, .cells 108 (hdrC d)) :: (d.mg, .ob (mapO d)) :: d.L.flatMap prItems
def cacheM (d : CDat) : Ar := lget (items d)
def keyW (k : Int × Int) : Prop := keyR k ∧ -9223372036854775808 ≤ k.1 ∧ k.1 ≤ 9223372036854775807
def PrOk (p : Pr) : Prop := (p.row = none → p.pl.ws = []) ∧ (∀ x, p.row = some x → p.rest.length = x.2 ∧ p.pl.ws.length + x.2 ≤ Go.maxLen) ∧ keyW p.pl.key
structure COk (d : CDat) : Prop where
  nodup : ((items d).map (·.1)).Nodup
  rows : ∀ p ∈ d.L, PrOk p
  keys : (d.L.map fun p => p.pl.key).Nodup
  born : (d.L.map Pr.born).Nodup
  bclk : ∀ p ∈ d.L, p.born < d.clk
theorem cache_hdr {d : CDat} : cacheM d d.cg = some (.cells 108 (hdrC d)) := by unfold cacheM items; rw [lget_same]
theorem cache_map {d : CDat} (h : COk d) : cacheM d d.mg = some (.ob (mapO d)) := lget_mem h.nodup (by unfold items; simp)
theorem cache_pr {d : CDat} (h : COk d) {p : Pr} (hp : p ∈ d.L) : cacheM d p.g = some (.cells 117 (prC p)) :=
  lget_mem h.nodup (by unfold items prItems; simp only [List.mem_cons, List.mem_flatMap]; exact .inr (.inr ⟨p, hp, .inl rfl⟩))
theorem cache_row {d : CDat} (h : COk d) {p : Pr} (hp : p ∈ d.L) {x : Nat × Nat} (hx : p.row = some x) : cacheM d x.1 = some (.cells 39 (rowC wsE p.pl.ws p.rest)) :=
  lget_mem h.nodup (by unfold items prItems prRow; simp only [List.mem_cons, List.mem_flatMap]; exact .inr (.inr ⟨p, hp, .inr (by rw [hx]; simp)⟩))

/-! ### Keys of the map -/
theorem place_law : WideMaps.KeyLaw Try.prog 78 := deep_law (m := 3) (by decide) (by kernel_rfl) (by kernel_rfl) (by kernel_rfl)
theorem place_key (k : Int × Int) (h : keyW k) : ∃ l, keyOf Try.prog 78 (placeV k.1 k.2) = some l := by
  obtain ⟨⟨h1, h2⟩, h3, h4⟩ := h
  obtain ⟨a, b⟩ := k
  dsimp only at h1 h2 h3 h4 ⊢
  have hs : ∃ k, Try.prog.types.size = k + 1 := ⟨Try.prog.types.size - 1, by kernel_rfl⟩
  obtain ⟨k, hk⟩ := hs
  have w1 : (Lit.int .u32 b).wf = true := by simp [Lit.wf, IntKind.min, IntKind.max, IntKind.signed, IntKind.bits]; omega
  have w2 : (Lit.int .i64 a).wf = true := by simp [Lit.wf, IntKind.min, IntKind.max, IntKind.signed, IntKind.bits]; omega
  have hf : (Try.prog.keyType 78 && (placeV a b).formed Try.prog 78) = true := by kernel_rfl
  unfold keyOf
  rw [Try.underlying78]
  simp only [hf, if_true]
  rw [hk]
  have c1 : Try.prog.cellsOf 78 = 2 := by kernel_rfl
  have c2 : Try.prog.cellsOf 25 = 1 := by kernel_rfl
  have c3 : Try.prog.cellsOf 3 = 1 := by kernel_rfl
  have k1 : ∀ d, Try.prog.keyLits (d + 1) 25 [.int .u32 b] = some [.int .u32 b] := fun d => by
    unfold Program.keyLits
    rw [Try.underlying25]
    simp [w1]
  have k2 : ∀ d, Try.prog.keyLits (d + 1) 3 [.int .i64 a] = some [.int .i64 a] := fun d => by
    unfold Program.keyLits
    rw [Try.underlying3]
    simp [w2]
  have e : Try.prog.keyLits (k + 1 + 1) 78 (placeV a b).cells.toList = some [.int .i64 a, .int .u32 b] := by
    unfold Program.keyLits
    rw [Try.underlying78]
    simp [placeV, Value.cells, c1, c2, c3, k1, k2]
  rw [e]
  exact ⟨_, rfl⟩
theorem placeV_inj {k k' : Int × Int} (h : placeV k.1 k.2 = placeV k'.1 k'.2) : k = k' := by
  unfold placeV at h
  injection h with h
  injection h with h
  injection h with h1 h2
  injection h1 with _ h1
  injection h2 with h2 _
  injection h2 with _ h2
  exact Prod.ext h1 h2
theorem ent_keys {d : CDat} (h : COk d) : ∀ e ∈ d.L.map entP, ∃ l, keyOf Try.prog 78 e.key = some l := fun e he => by
  obtain ⟨p, hp, rfl⟩ := List.mem_map.1 he
  exact place_key p.pl.key (h.rows p hp).2.2
end Go.Proofs.Ytfepckbhnghpeaa.V
namespace Go.Proofs.Ytfepckbhnghpeaa.V
open Go.RowKit
attribute [local irreducible] Fn FnN OpVC ArC FnR ArL

theorem conv_fp {M : Ar} {g : Nat} {el : TypeId} {l : List D} {rest : List D} (hg : M g = some (.cells el l)) (C : Ctx) (vs : List Value) (hM : ∀ k x, M k = some x → C.ok k ∧ x.at C k) (hr : reps C (.v (.pointer (some ⟨g, 0, none⟩)) :: rest) vs) : reps C (.fp l :: rest) vs := by
  refine ⟨hr.1, fun j d u hd hu => ?_⟩
  match j, hd with
  | 0, hd => injection hd with hd; subst hd; exact fp_at hM hg (hr.2 0 _ u rfl hu)
  | j + 1, hd => exact hr.2 (j + 1) d u hd hu
abbrev ptrD (g : Nat) : D := .v (.pointer (some ⟨g, 0, none⟩))

theorem clampW_in (n : Int) : 1 ≤ clampW n ∧ clampW n ≤ 4095 := by unfold clampW; omega
theorem due_gen (c : Nat → Int) (now : Int) (X Y : D) (n : Int) (hn : 0 ≤ now ∧ now ≤ 2000000000) : FnN Try.prog 53 [.fp (cfgC c ++ [intD now, X, Y]), intD n] fun r => r = intD (now + clampW n) := by
  refine fnNOf [] Try.func53 rfl (by kernel_rfl) (Nat.le_of_ble_eq_true rfl) ?_
  have h := clampW_in n
  have e : IntKind.i64.wrap (now + min (max n 1) 4095) = now + clampW n := IntWalk.i64_in _ (by unfold clampW at h; omega)
  conv => whnf
  rw [e]
  exact ⟨rfl, rfl⟩
theorem due_fn (d : CDat) (n : Int) (hn : 0 ≤ d.now ∧ d.now ≤ 2000000000) : FnN Try.prog 53 [.fp (hdrC d), intD n] fun r => r = intD (d.now + clampW n) := due_gen d.c d.now _ _ n hn
theorem waits_fn (d : CDat) : FnN Try.prog 43 [.fp (hdrC d)] fun r => r = intD (waitsL d.L) := by
  refine fnNOf [] Try.func43 rfl (by kernel_rfl) (Nat.le_of_ble_eq_true rfl) ?_
  conv => whnf
  exact ⟨rfl, rfl⟩
set_option maxHeartbeats 4000000 in
theorem get_ar (d : CDat) (h : COk d) (k : Int × Int) (hk : keyW k) : ArC Try.prog 52 [ptrD d.cg, .agg (plC k)] (cacheM d) fun r M => M = cacheM d ∧ (((∀ p ∈ d.L, p.pl.key ≠ k) ∧ r = .v (.pointer none)) ∨ ∃ p ∈ d.L, p.pl.key = k ∧ r = ptrD p.g) := by
  refine arOf [] Try.func52 rfl (by kernel_rfl) (Nat.le_of_ble_eq_true rfl) fun S => ?_
  obtain ⟨lk, hlk⟩ := place_key k hk
  have hh := cache_hdr (d := d)
  have hm := cache_map h
  have hL := ent_keys h
  conv => whnf
  refine pv_isNil (b := false) ttH rfl rfl rfl (.inl ⟨rfl, rfl⟩) ?_
  conv => whnf
  refine pv_nil rfl ?_
  conv => whnf
  refine pv_field ttH rfl rfl rfl ?_
  conv => whnf
  refine pv_loadA (i := 0) ttH rfl rfl rfl hh rfl ?_
  conv => whnf
  refine op_lookupA (i := 0) (z := .pointer none) (L := d.L.map entP) (vs := [.int .i64 k.1, .int .u32 k.2]) rfl Try.underlying106 (by kernel_rfl) place_law rfl rfl rfl hm hlk hL (fun hno => ?_) (fun e he hek => ?_)
  · conv => whnf
    exact .done _ _ rfl rfl ⟨rfl, .inl ⟨fun p hp e => hno (entP p) (List.mem_map.2 ⟨p, hp, rfl⟩) (by rw [← e]; rfl), rfl⟩⟩
  · obtain ⟨p, hp, rfl⟩ := List.mem_map.1 he
    conv => whnf
    exact .done _ _ rfl rfl ⟨rfl, .inr ⟨p, hp, placeV_inj hek, rfl⟩⟩
theorem find_mem {d : CDat} (h : COk d) {p : Pr} (hp : p ∈ d.L) {q : Pr} (hq : q ∈ d.L) (e : p.pl.key = q.pl.key) : p = q := by
  have hn := h.keys
  generalize d.L = L at *
  induction L with
  | nil => cases hp
  | cons x r ih =>
    rw [List.map_cons, List.nodup_cons] at hn
    rcases List.mem_cons.1 hp with e1 | hp2 <;> rcases List.mem_cons.1 hq with e2 | hq2
    · rw [e1, e2]
    · exact absurd (List.mem_map.2 ⟨q, hq2, by rw [← e, e1]⟩) hn.1
    · exact absurd (List.mem_map.2 ⟨p, hp2, by rw [e, e2]⟩) hn.1
    · exact ih hp2 hq2 hn.2
def macD (m : Nat → Int) : D := .agg (macC m)
def cdat0 (cg mg : Nat) (c : Nat → Int) (now : Int) : CDat := ⟨cg, mg, 0, c, now, []⟩
set_option maxHeartbeats 4000000 in
theorem cnew_ar (c : Nat → Int) (now : Int) : ArC Try.prog 22 [.agg (cfgC c), intD now] (fun _ => none) fun r M => ∃ cg mg, COk (cdat0 cg mg c (min (max now 0) 1073741824)) ∧ M = cacheM (cdat0 cg mg c (min (max now 0) 1073741824)) ∧ r = ptrD cg := by
  refine arOf [] Try.func22 rfl (by kernel_rfl) (Nat.le_of_ble_eq_true rfl) fun S => ?_
  conv => whnf
  refine op_makeMapA (i := 0) rfl rfl fun mg S1 _ => ?_
  conv => whnf
  refine .abs 2 _ _ 108 (hdrC (cdat0 0 mg c (min (max now 0) 1073741824))) rfl rfl rfl fun cg S2 hcg => ?_
  have hne : cg ≠ mg := fun e => by rw [e, Ar.upd_same] at hcg; cases hcg
  refine .done S2 _ rfl rfl ⟨cg, mg, ⟨by unfold items cdat0; simpa using hne, fun p hp => absurd hp List.not_mem_nil, List.nodup_nil, List.nodup_nil, fun p hp => absurd hp List.not_mem_nil⟩, ?_, rfl⟩
  funext k
  unfold cacheM items
  simp only [upd_if, lget_cons]
  rfl
end Go.Proofs.Ytfepckbhnghpeaa.V
namespace Go.Proofs.Ytfepckbhnghpeaa.V
open Go.RowKit

theorem rowC_cell {α : Type} {enc : α → List D} {L : List α} {rest : List Value} {e : Nat} (hlen : ∀ x, (enc x).length = e) (q : Nat) (x : α) (j : Nat) (d : D) (hx : L[q]? = some x) (hd : (enc x)[j]? = some d) : (rowC enc L rest)[q * e + j]? = some d := by
  have hj : j < e := by have := (List.getElem?_eq_some_iff.1 hd).1; rw [hlen] at this; exact this
  have h1 := flat_get (L := L) (fun _ x _ => hlen x) hx hj
  unfold rowC
  rw [List.getElem?_append_left, h1, hd]
  have := (List.getElem?_eq_some_iff.1 (h1.trans hd)).1
  exact this
theorem rowC_len {α : Type} {enc : α → List D} {L : List α} {rest : List Value} {e : Nat} (hlen : ∀ x, (enc x).length = e) : (rowC enc L rest).length = L.length * e + rest.length := by
  unfold rowC
  rw [List.length_append, flat_len (fun _ x _ => hlen x), List.length_map]

/-! ### A place's blocks ahead of all others -/
def openI (d : CDat) (X R : List (Nat × It)) : List (Nat × It) := (d.cg, .cells 108 (hdrC d)) :: (d.mg, .ob (mapO d)) :: (X ++ R)
theorem items_open {d : CDat} {A B : List Pr} {p : Pr} (hL : d.L = A ++ p :: B) : (items d).Perm (openI d (prItems p) ((A ++ B).flatMap prItems)) := by
  unfold items openI
  rw [hL]
  refine (List.Perm.cons _ (List.Perm.cons _ ?_))
  rw [List.flatMap_append, List.flatMap_cons, List.flatMap_append]
  exact List.perm_append_comm_assoc _ _ _
theorem items_snoc {d : CDat} {A : List Pr} {p : Pr} (hL : d.L = A ++ [p]) : (items d).Perm (openI d (prItems p) (A.flatMap prItems)) := by
  have := items_open (d := d) (A := A) (B := []) (p := p) hL
  rwa [List.append_nil] at this
theorem cache_open {d : CDat} (h : COk d) {A B : List Pr} {p : Pr} (hL : d.L = A ++ p :: B) : cacheM d = lget (openI d (prItems p) ((A ++ B).flatMap prItems)) := lget_perm (items_open hL) h.nodup
theorem nodup_perm {l l' : List (Nat × It)} (h : l.Perm l') : (l.map (·.1)).Nodup ↔ (l'.map (·.1)).Nodup := (h.map _).nodup_iff
theorem cache_is {d : CDat} {l : List (Nat × It)} {M : Ar} (hp : (items d).Perm l) (hn : (l.map (·.1)).Nodup) (h : ∀ k, M k = lget l k) : M = cacheM d := by
  unfold cacheM
  rw [lget_perm hp ((nodup_perm hp).2 hn)]
  funext k
  exact h k
theorem mem_split' {d : CDat} {p : Pr} (hp : p ∈ d.L) : ∃ A B, d.L = A ++ p :: B := List.append_of_mem hp

/-! ### The row in order -/
theorem waitsT_append : ∀ (A B : List Pl), waitsT (A ++ B) = waitsT A + waitsT B
  | [], B => by simp [waitsT]
  | x :: r, B => by rw [List.cons_append, waitsT, waitsT, waitsT_append r B]; omega
theorem waitsT_perm {A B : List Pl} (h : A.Perm B) : waitsT A = waitsT B := by
  induction h with
  | nil => rfl
  | cons x _ ih => rw [waitsT, waitsT, ih]
  | swap x y l => simp only [waitsT]; omega
  | trans _ _ ih1 ih2 => exact ih1.trans ih2
theorem insT_perm (x : Pl) : ∀ (T : List Pl), (insT x T).Perm (x :: T)
  | [] => .refl _
  | y :: r => by
    unfold insT
    cases decide (keyN x.key < keyN y.key) with
    | true => exact .refl _
    | false => exact ((insT_perm x r).cons y).trans (.swap x y r)
theorem insT_sort {x : Pl} (hx : keyR x.key) : ∀ {T : List Pl}, SortT T → (∀ y ∈ T, y.key ≠ x.key) → SortT (insT x T)
  | [], _, _ => ⟨fun y hy => by rw [List.mem_singleton.1 hy]; exact hx, List.pairwise_singleton _ _⟩
  | y :: r, h, hno => by
    have h2 := List.pairwise_cons.1 h.2
    unfold insT
    cases hq : decide (keyN x.key < keyN y.key) with
    | true =>
      have hq := of_decide_eq_true hq
      refine ⟨fun z hz => ?_, List.pairwise_cons.2 ⟨fun z hz => ?_, h.2⟩⟩
      · rcases List.mem_cons.1 hz with rfl | hz
        · exact hx
        · exact h.1 z hz
      · rcases List.mem_cons.1 hz with rfl | hz
        · exact hq
        · exact Int.lt_trans hq (h2.1 z hz)
    | false =>
      have hq := of_decide_eq_false hq
      have ih := insT_sort hx (T := r) ⟨fun z hz => h.1 z (List.mem_cons_of_mem _ hz), h2.2⟩ fun z hz => hno z (List.mem_cons_of_mem _ hz)
      have hne : keyN y.key ≠ keyN x.key := fun e => hno y List.mem_cons_self (keyN_inj (h.1 y List.mem_cons_self) hx e)
      refine ⟨fun z hz => ?_, List.pairwise_cons.2 ⟨fun z hz => ?_, ih.2⟩⟩
      · rcases List.mem_cons.1 hz with rfl | hz
        · exact h.1 _ List.mem_cons_self
        · exact ih.1 z hz
      · rcases List.mem_cons.1 ((insT_perm x r).mem_iff.1 hz) with rfl | hz
        · omega
        · exact h2.1 z hz
theorem sort_keys {T : List Pl} (h : SortT T) : (T.map Pl.key).Nodup := by
  rw [List.nodup_iff_pairwise_ne, List.pairwise_map]
  exact h.2.imp fun hab e => by rw [e] at hab; exact Int.lt_irrefl _ hab
theorem findT_some {T : List Pl} (h : (T.map Pl.key).Nodup) {x : Pl} (hx : x ∈ T) : findT T x.key = some x := by
  unfold findT
  induction T with
  | nil => cases hx
  | cons y r ih =>
    rw [List.map_cons, List.nodup_cons] at h
    rcases List.mem_cons.1 hx with rfl | hx
    · rw [List.find?_cons_of_pos (by simp)]
    · rw [List.find?_cons_of_neg (by simp; exact fun e => h.1 (List.mem_map.2 ⟨x, hx, e.symm⟩)), ih h.2 hx]
theorem findT_none {T : List Pl} {k : Int × Int} (h : ∀ x ∈ T, x.key ≠ k) : findT T k = none := List.find?_eq_none.2 fun x hx => by simpa using h x hx
theorem findT_mem {T : List Pl} {k : Int × Int} {x : Pl} (h : findT T k = some x) : x ∈ T ∧ x.key = k := ⟨List.mem_of_find?_eq_some h, by simpa using List.find?_some h⟩
theorem updT_split {A B : List Pl} {x y : Pl} (h : ((A ++ x :: B).map Pl.key).Nodup) (hk : y.key = x.key) : updT (A ++ x :: B) y = A ++ y :: B := by
  rw [List.map_append, List.map_cons, List.nodup_append] at h
  obtain ⟨_, h2, h3⟩ := h
  rw [List.nodup_cons] at h2
  have same : ∀ {C : List Pl}, (∀ z ∈ C, z.key ≠ x.key) → updT C y = C := fun {C} hC => by
    unfold updT
    conv => rhs; rw [← List.map_id C]
    refine List.map_congr_left fun z hz => ?_
    rw [hk, decide_eq_false (hC z hz)]
    rfl
  have hA := same (C := A) fun z hz e => h3 _ (List.mem_map_of_mem hz) _ List.mem_cons_self e
  have hB := same (C := B) fun z hz e => h2.1 (List.mem_map.2 ⟨z, hz, e⟩)
  unfold updT at hA hB ⊢
  rw [List.map_append, List.map_cons, hA, hB, hk, decide_eq_true rfl]
theorem updT_perm {T T' : List Pl} (h : T.Perm T') (y : Pl) : (updT T y).Perm (updT T' y) := h.map _
theorem updT_key {T : List Pl} {y : Pl} : (updT T y).map Pl.key = T.map Pl.key := by
  unfold updT
  rw [List.map_map]
  refine List.map_congr_left fun z _ => ?_
  show Pl.key (match decide (z.key = y.key) with | true => y | false => z) = _
  cases hq : decide (z.key = y.key) with
  | true => exact (of_decide_eq_true hq).symm
  | false => rfl
theorem updT_sort {T : List Pl} (h : SortT T) (y : Pl) : SortT (updT T y) := by
  have hk := updT_key (T := T) (y := y)
  refine ⟨fun x hx => ?_, ?_⟩
  · have := List.mem_map_of_mem (f := Pl.key) hx
    rw [hk] at this
    obtain ⟨z, hz, e⟩ := List.mem_map.1 this
    rw [← e]; exact h.1 z hz
  · have h1 : ((updT T y).map Pl.key).Pairwise fun a b => keyN a < keyN b := by
      rw [hk, List.pairwise_map]; exact h.2
    rwa [List.pairwise_map] at h1
end Go.Proofs.Ytfepckbhnghpeaa.V
namespace Go.Proofs.Ytfepckbhnghpeaa.V
open Go.RowKit
attribute [local irreducible] Fn FnN OpVC ArC FnR ArL

structure CStand (d : CDat) (T : List Pl) : Prop where
  ok : COk d
  perm : (d.L.map Pr.pl).Perm T
  sort : SortT T
theorem CStand.keysT {d : CDat} {T : List Pl} (h : CStand d T) : (T.map Pl.key).Nodup := sort_keys h.sort
theorem CStand.find {d : CDat} {T : List Pl} (h : CStand d T) {p : Pr} (hp : p ∈ d.L) : findT T p.pl.key = some p.pl := findT_some h.keysT (h.perm.mem_iff.1 (List.mem_map_of_mem hp))
theorem CStand.none {d : CDat} {T : List Pl} (h : CStand d T) {k : Int × Int} (hk : ∀ p ∈ d.L, p.pl.key ≠ k) : findT T k = .none := findT_none fun x hx => by
  obtain ⟨p, hp, rfl⟩ := List.mem_map.1 (h.perm.mem_iff.2 hx)
  exact hk p hp
theorem CStand.waits {d : CDat} {T : List Pl} (h : CStand d T) : waitsL d.L = waitsT T := waitsT_perm h.perm
theorem CStand.len {d : CDat} {T : List Pl} (h : CStand d T) : d.L.length = T.length := by have := h.perm.length_eq; rwa [List.length_map] at this
theorem wsE_len (b : List Nat) : (wsE b).length = 1 := rfl
theorem waitsT_set {A B : List Pl} {x y : Pl} : waitsT (A ++ y :: B) + x.ws.length = waitsT (A ++ x :: B) + y.ws.length := by
  rw [waitsT_append, waitsT_append, waitsT, waitsT]; omega
theorem waitsT_mem : ∀ {T : List Pl} {x : Pl}, x ∈ T → x.ws.length ≤ waitsT T
  | y :: r, x, h => by
    rw [waitsT]
    rcases List.mem_cons.1 h with rfl | h
    · omega
    · have := waitsT_mem h; omega

def CDat.put (d : CDat) (A B : List Pr) (p : Pr) : CDat := { d with L := A ++ p :: B }
theorem put_keys {d : CDat} (h : COk d) {A B : List Pr} {p q : Pr} (hL : d.L = A ++ p :: B) (hk : q.pl.key = p.pl.key) : ((d.put A B q).L.map fun p => p.pl.key).Nodup := by
  have := h.keys
  rw [hL] at this
  show ((A ++ q :: B).map fun p => p.pl.key).Nodup
  rw [List.map_append, List.map_cons] at this ⊢
  rw [hk]; exact this
theorem put_born {d : CDat} (h : COk d) {A B : List Pr} {p q : Pr} (hL : d.L = A ++ p :: B) (hk : q.born = p.born) : ((d.put A B q).L.map Pr.born).Nodup ∧ ∀ x ∈ (d.put A B q).L, x.born < (d.put A B q).clk := by
  have h1 := h.born
  have h2 := h.bclk
  rw [hL] at h1 h2
  refine ⟨?_, fun x hx => ?_⟩
  · show ((A ++ q :: B).map Pr.born).Nodup
    rw [List.map_append, List.map_cons] at h1 ⊢
    rw [hk]; exact h1
  · show x.born < d.clk
    rcases List.mem_append.1 hx with hx | hx
    · exact h2 x (by simp [hx])
    · rcases List.mem_cons.1 hx with rfl | hx
      · rw [hk]; exact h2 p (by simp)
      · exact h2 x (by simp [hx])
theorem put_map {d : CDat} {A B : List Pr} {p q : Pr} (hL : d.L = A ++ p :: B) (he : entP q = entP p) : mapO (d.put A B q) = mapO d := by
  unfold mapO
  rw [hL]
  show Obj.map ((A ++ q :: B).map entP).toArray d.clk = _
  rw [List.map_append, List.map_append, List.map_cons, List.map_cons, he]
theorem put_stand {d : CDat} {T : List Pl} (h : CStand d T) {A B : List Pr} {p q : Pr} (hL : d.L = A ++ p :: B) (hk : q.pl.key = p.pl.key) (hok : COk (d.put A B q)) : CStand (d.put A B q) (updT T q.pl) := by
  refine ⟨hok, ?_, updT_sort h.sort _⟩
  have hn : ((A.map Pr.pl ++ p.pl :: B.map Pr.pl).map Pl.key).Nodup := by
    have h1 := h.keysT
    have h2 := h.perm
    rw [hL, List.map_append, List.map_cons] at h2
    exact ((h2.map Pl.key).nodup_iff).2 h1
  have h2 := updT_perm h.perm q.pl
  rw [hL, List.map_append, List.map_cons, updT_split hn hk] at h2
  show ((A ++ q :: B).map Pr.pl).Perm _
  rw [List.map_append, List.map_cons]
  exact h2
abbrev errD (n : Int) : D := intD n

theorem cache_ne {d : CDat} (h : COk d) {p : Pr} (hp : p ∈ d.L) : d.cg ≠ d.mg ∧ d.cg ≠ p.g ∧ d.mg ≠ p.g ∧ ∀ x, p.row = some x → d.cg ≠ x.1 ∧ d.mg ≠ x.1 ∧ p.g ≠ x.1 := by
  have h1 := cache_hdr (d := d)
  have h2 := cache_map h
  have h3 := cache_pr h hp
  refine ⟨fun e => ?_, fun e => ?_, fun e => ?_, fun x hx => ⟨fun e => ?_, fun e => ?_, fun e => ?_⟩⟩
  · rw [e, h2] at h1; cases h1
  · rw [e, h3] at h1; cases h1
  · rw [e, h3] at h2; cases h2
  · rw [e, cache_row h hp hx] at h1; cases h1
  · rw [e, cache_row h hp hx] at h2; cases h2
  · rw [e, cache_row h hp hx] at h3; cases h3
theorem fresh_ne {d : CDat} (h : COk d) {p : Pr} (hp : p ∈ d.L) {g0 c0 g1 : Nat} (hx : p.row = some (g0, c0)) (hf : (cacheM d).upd g0 none g1 = none) : d.cg ≠ g1 ∧ d.mg ≠ g1 ∧ p.g ≠ g1 := by
  obtain ⟨_, _, _, h4⟩ := cache_ne h hp
  obtain ⟨n1, n2, n3⟩ := h4 _ hx
  dsimp only at n1 n2 n3
  refine ⟨fun e => ?_, fun e => ?_, fun e => ?_⟩
  · rw [← e, upd_if, if_neg n1, cache_hdr] at hf; cases hf
  · rw [← e, upd_if, if_neg n2, cache_map h] at hf; cases hf
  · rw [← e, upd_if, if_neg n3, cache_pr h hp] at hf; cases hf
theorem put_row {d : CDat} (h : COk d) {A B : List Pr} {p q : Pr} (hL : d.L = A ++ p :: B) {g0 c0 g1 c1 : Nat} (hx0 : p.row = some (g0, c0)) (hf : (cacheM d).upd g0 none g1 = none) (hg : q.g = p.g) (hx1 : q.row = some (g1, c1)) (hb : q.born = p.born) (hk : q.pl.key = p.pl.key) (hok : PrOk q)
    {M' : Ar} (hM : ∀ k, M' k = if k = d.cg then some (.cells 108 (hdrC (d.put A B q))) else if k = p.g then some (.cells 117 (prC q)) else if k = g1 then some (.cells 39 (rowC wsE q.pl.ws q.rest)) else if k = g0 then none else cacheM d k) : COk (d.put A B q) ∧ M' = cacheM (d.put A B q) := by
  have hmem : p ∈ d.L := by rw [hL]; simp
  obtain ⟨n0, n1, n2, n3⟩ := cache_ne h hmem
  obtain ⟨n4, n5, n6⟩ := n3 _ hx0
  obtain ⟨m1, m2, m3⟩ := fresh_ne h hmem hx0 hf
  dsimp only at n4 n5 n6
  have he : entP q = entP p := by
    unfold entP
    have : (q.pl.nic, q.pl.next) = (p.pl.nic, p.pl.next) := hk
    injection this with e1 e2
    rw [hg, hb, e1, e2]
  have hmap := put_map hL he
  have hop := cache_open h hL
  have hnd := (nodup_perm (items_open hL)).1 h.nodup
  have hp1 : prItems p = [(p.g, .cells 117 (prC p)), (g0, .cells 39 (rowC wsE p.pl.ws p.rest))] := by unfold prItems prRow; rw [hx0]
  have hq1 : prItems q = [(p.g, .cells 117 (prC q)), (g1, .cells 39 (rowC wsE q.pl.ws q.rest))] := by unfold prItems prRow; rw [hx1, hg]
  unfold openI at hop hnd
  rw [hp1] at hop hnd
  have hop2 := fun k => congrFun hop k
  generalize hR : (A ++ B).flatMap prItems = R at *
  simp only [List.cons_append, List.nil_append, List.map_cons, List.nodup_cons, List.mem_cons, not_or] at hnd
  obtain ⟨⟨_, _, _, r1⟩, ⟨_, _, r2⟩, ⟨_, r3⟩, r4, r5⟩ := hnd
  have r6 : g1 ∉ R.map (·.1) := by
    by_cases e : g1 = g0
    · rw [e]; exact r4
    · rw [upd_if, if_neg e, hop2] at hf
      simp only [List.cons_append, List.nil_append, lget_cons, if_neg (Ne.symm m1), if_neg (Ne.symm m2), if_neg (Ne.symm m3), if_neg e] at hf
      exact lget_none.1 hf
  have hnew : (items (d.put A B q)).Perm (openI (d.put A B q) (prItems q) R) := by rw [← hR]; exact items_open rfl
  have hnd' : ((openI (d.put A B q) (prItems q) R).map (·.1)).Nodup := by
    unfold openI
    rw [hq1]
    simp only [List.cons_append, List.nil_append, List.map_cons, List.nodup_cons, List.mem_cons, not_or]
    exact ⟨⟨n0, n1, m1, r1⟩, ⟨n2, m2, r2⟩, ⟨m3, r3⟩, r6, r5⟩
  refine ⟨⟨(nodup_perm hnew).2 hnd', fun x hx => ?_, put_keys h hL hk, (put_born h hL hb).1, (put_born h hL hb).2⟩, cache_is hnew hnd' fun k => ?_⟩
  · rcases List.mem_append.1 hx with hx | hx
    · exact h.rows x (by rw [hL]; simp [hx])
    · rcases List.mem_cons.1 hx with rfl | hx
      · exact hok
      · exact h.rows x (by rw [hL]; simp [hx])
  · rw [hM, hop2]
    unfold openI
    rw [hq1, hmap]
    simp only [List.cons_append, List.nil_append, lget_cons]
    show (if k = d.cg then _ else _) = if k = d.cg then _ else if k = d.mg then _ else _
    by_cases e1 : k = d.cg
    · simp [e1]
    by_cases e2 : k = d.mg
    · simp [e2, Ne.symm n0, n2, m2, n5]
    by_cases e3 : k = p.g
    · simp [e3, Ne.symm n1, Ne.symm n2]
    by_cases e4 : k = g1
    · simp [e4, Ne.symm m1, Ne.symm m2, Ne.symm m3]
    by_cases e5 : k = g0
    · subst e5
      simp [e1, e2, e3, e4, lget_none.2 r4]
    · simp [e1, e2, e3, e4, e5]
set_option maxHeartbeats 16000000 in
theorem want_old (d : CDat) (T : List Pl) (h : CStand d T) (A B : List Pr) (p : Pr) (hL : d.L = A ++ p :: B) (b : List Nat) (hb : b.length ≤ 100000) (hn : 0 ≤ d.now ∧ d.now ≤ 2000000000) (hw : waitsT T ≤ 1000000) (hk : keyW p.pl.key) (hkn : p.pl.known = false) (hrow : p.row ≠ none) (hq : ¬ (waitsT T : Int) ≥ d.c 28) :
    ArC Try.prog 28 [ptrD d.cg, .agg (plC p.pl.key), octR b] (cacheM d) fun r M => r = .tup [boolD false, errD 0] ∧ ∃ d', M = cacheM d' ∧ d'.cg = d.cg ∧ d'.c = d.c ∧ d'.now = d.now ∧ CStand d' (updT T { p.pl with ws := p.pl.ws ++ [b] }) := by
  refine arOf [] Try.func28 rfl (by kernel_rfl) (Nat.le_of_ble_eq_true rfl) fun S => ?_
  have hmem : p ∈ d.L := by rw [hL]; simp
  have hg := get_ar d h.ok p.pl.key hk
  have hh := cache_hdr (d := d)
  have hpr := cache_pr h.ok hmem
  have hj := join1_fn b (by omega)
  have hwl : waitsL d.L = waitsT T := h.waits
  obtain ⟨x0, hx0⟩ := Option.ne_none_iff_exists'.1 hrow
  obtain ⟨g0, c0⟩ := x0
  have hr0 := cache_row h.ok hmem hx0
  obtain ⟨hp1, hp2, _⟩ := h.ok.rows p hmem
  obtain ⟨hp2, hp3⟩ := hp2 _ hx0
  dsimp only at hr0 hp2 hp3
  have hws : p.pl.ws.length ≤ 1000000 := Nat.le_trans (waitsT_mem (h.perm.mem_iff.1 (List.mem_map_of_mem hmem))) hw
  conv => whnf
  (refine pv_isNil (b := false) ttH rfl rfl rfl (.inl ⟨rfl, rfl⟩) ?_; conv => whnf)
  refine CallVC.ar (i := 0) hg rfl rfl ?_
  rintro _ _ S1 ⟨rfl, (⟨hno, _⟩ | ⟨p', hp', hpk, rfl⟩)⟩
  · exact absurd rfl (hno p hmem)
  obtain rfl : p' = p := find_mem h.ok hp' hmem hpk
  conv => whnf
  (refine pv_isNil (b := true) ttH rfl rfl rfl (.inr ⟨rfl, rfl⟩) ?_; conv => whnf)
  (refine pv_nil rfl ?_; (conv => whnf); refine pv_field ttH rfl rfl rfl ?_; conv => whnf)
  refine pv_loadA (i := 0) ttH rfl rfl rfl hpr rfl ?_
  rw [hkn]
  conv => whnf
  (refine pv_nil rfl ?_; (conv => whnf); refine pv_field ttH rfl rfl rfl ?_; conv => whnf)
  (refine pv_loadA (i := 0) ttH rfl rfl rfl (hh) rfl ?_; conv => whnf)
  (refine pv_nil rfl ?_; (conv => whnf); refine pv_field ttH rfl rfl rfl ?_; conv => whnf)
  (refine pv_field ttH rfl rfl rfl ?_; conv => whnf)
  (refine pv_loadA (i := 0) ttH rfl rfl rfl (hh) rfl ?_; conv => whnf)
  refine Fork.intro (fun q => absurd (of_decide_eq_true q) (by rw [hwl]; exact hq)) (fun _ => ?_)
  conv => whnf
  (refine pv_isNil (b := false) ttH rfl rfl rfl (.inl ⟨rfl, rfl⟩) ?_; conv => whnf)
  (refine pv_isNil (b := false) ttH rfl rfl rfl (.inl ⟨rfl, rfl⟩) ?_; conv => whnf)
  (refine pv_nil rfl ?_; (conv => whnf); refine pv_field ttH rfl rfl rfl ?_; conv => whnf)
  refine pv_loadA (i := 0) ttH rfl rfl rfl hpr rfl ?_
  rw [hx0, slV_some]
  conv => whnf
  refine ⟨by decide, ?_⟩
  conv => whnf
  refine CallVC.pure hj rfl ?_
  rintro _ rfl
  conv => whnf
  refine ⟨by decide, ?_⟩
  conv => whnf
  refine op_emit (i := 0) (j := 74) (L := p'.pl.ws) (enc := wsE) (e := 1) rfl rfl hr0 rfl (fun _ _ _ => rfl) (rowC_cell wsE_len) (by rw [rowC_len wsE_len, hp2]; omega) hp3 fun S2 => ?_
  refine op_append ttH rfl ?_
  conv => whnf
  refine ⟨List Nat, wsE, p'.pl.ws ++ [b], by rw [List.map_append]; rfl, fun _ => rfl, by rw [List.length_append]; show p'.pl.ws.length + 1 ≤ _; omega, by rw [List.length_append]; show (p'.pl.ws.length + 1) * 24 ≤ _; omega, rfl, ?_⟩
  conv => whnf
  (refine pv_nil rfl ?_; (conv => whnf); refine pv_field ttH rfl rfl rfl ?_; conv => whnf)
  refine op_absorbRow (i := 0) (r := 3) rfl rfl fun row rest S3 hrw1 hrw2 => ?_
  obtain ⟨y, hy⟩ : ∃ y, row = some y := by
    cases row with
    | none => have := hrw1 rfl; simp at this
    | some y => exact ⟨y, rfl⟩
  subst hy
  obtain ⟨g1, c1⟩ := y
  obtain ⟨hf1, hf2, hf3⟩ := hrw2 _ rfl
  dsimp only at hf1 hf2 hf3
  obtain ⟨m1, m2, m3⟩ := fresh_ne h.ok hmem hx0 hf1
  obtain ⟨n0, n1, n2, n3⟩ := cache_ne h.ok hmem
  obtain ⟨n4, n5, n6⟩ := n3 _ hx0
  dsimp only at n4 n5 n6
  have hpr1 : updR ((cacheM d).upd g0 none) (some (g1, c1)) (.cells 39 (rowC wsE (p'.pl.ws ++ [b]) rest)) p'.g = some (.cells 117 (prC p')) := by
    show (((cacheM d).upd g0 none).upd g1 _) p'.g = _
    rw [upd_if, if_neg m3, upd_if, if_neg n6, hpr]
  refine op_storeS (i := 0) (row := some (g1, c1)) (n := (p'.pl.ws ++ [b]).length) (l' := prC { p' with pl := { p'.pl with ws := p'.pl.ws ++ [b] }, row := some (g1, c1), rest := rest }) ttH rfl rfl rfl rfl rfl hpr1 rfl rfl ?_
  have hh1 : (updR ((cacheM d).upd g0 none) (some (g1, c1)) (.cells 39 (rowC wsE (p'.pl.ws ++ [b]) rest))).upd p'.g (some (.cells 117 (prC { p' with pl := { p'.pl with ws := p'.pl.ws ++ [b] }, row := some (g1, c1), rest := rest }))) d.cg = some (.cells 108 (hdrC d)) := by
    show ((((cacheM d).upd g0 none).upd g1 _).upd p'.g _) d.cg = _
    rw [upd_if, if_neg n1, upd_if, if_neg m1, upd_if, if_neg n4, hh]
  conv => whnf
  (refine pv_nil rfl ?_; (conv => whnf); refine pv_field ttH rfl rfl rfl ?_; conv => whnf)
  (refine pv_loadA (i := 0) ttH rfl rfl rfl (hh1) rfl ?_; conv => whnf)
  (refine pv_nil rfl ?_; (conv => whnf); refine pv_field ttH rfl rfl rfl ?_; conv => whnf)
  have hq1 : PrOk { p' with pl := { p'.pl with ws := p'.pl.ws ++ [b] }, row := some (g1, c1), rest := rest } :=
    ⟨(fun e => by cases e), (fun x hx => by injection hx with hx; subst hx; exact ⟨by rw [hf2]; omega, hf3⟩), hk⟩
  have hput := fun M' => put_row (M' := M') (q := { p' with pl := { p'.pl with ws := p'.pl.ws ++ [b] }, row := some (g1, c1), rest := rest }) h.ok hL hx0 hf1 rfl rfl rfl rfl hq1
  have hst := put_stand (q := { p' with pl := { p'.pl with ws := p'.pl.ws ++ [b] }, row := some (g1, c1), rest := rest }) h hL rfl
  have ew : IntKind.i64.wrap (((waitsL d.L : Nat) : Int) + 1) = ((waitsL (d.put A B { p' with pl := { p'.pl with ws := p'.pl.ws ++ [b] }, row := some (g1, c1), rest := rest }).L : Nat) : Int) := by
    have e1 : waitsL (d.put A B { p' with pl := { p'.pl with ws := p'.pl.ws ++ [b] }, row := some (g1, c1), rest := rest }).L = waitsL d.L + 1 := by
      have h2 : waitsL d.L = waitsT ((A ++ p' :: B).map Pr.pl) := by unfold waitsL; rw [hL]
      have h3 := waitsT_set (A := A.map Pr.pl) (B := B.map Pr.pl) (x := p'.pl) (y := { p'.pl with ws := p'.pl.ws ++ [b] })
      rw [h2]
      show waitsT ((A ++ _ :: B).map Pr.pl) = _
      rw [List.map_append, List.map_cons, List.map_append, List.map_cons]
      dsimp only at h3 ⊢
      rw [List.length_append, List.length_singleton] at h3
      omega
    rw [e1, IntWalk.i64_in _ (by omega)]
    omega
  rw [ew]
  refine op_storeA (i := 0) (l' := hdrC (d.put A B { p' with pl := { p'.pl with ws := p'.pl.ws ++ [b] }, row := some (g1, c1), rest := rest })) ttH rfl rfl rfl rfl hh1 rfl rfl rfl rfl rfl ?_
  obtain ⟨hcok, hM'⟩ := hput ((((updR ((cacheM d).upd g0 none) (some (g1, c1)) (.cells 39 (rowC wsE (p'.pl.ws ++ [b]) rest))).upd p'.g (some (.cells 117 (prC { p' with pl := { p'.pl with ws := p'.pl.ws ++ [b] }, row := some (g1, c1), rest := rest })))).upd d.cg (some (.cells 108 (hdrC (d.put A B { p' with pl := { p'.pl with ws := p'.pl.ws ++ [b] }, row := some (g1, c1), rest := rest })))))) (fun k => by
    show ((((cacheM d).upd g0 none).upd g1 _).upd p'.g _).upd d.cg _ k = _
    simp only [upd_if])
  rw [hM']
  conv => whnf
  exact .done _ _ rfl rfl ⟨rfl, _, rfl, rfl, rfl, rfl, hst hcok⟩
end Go.Proofs.Ytfepckbhnghpeaa.V
