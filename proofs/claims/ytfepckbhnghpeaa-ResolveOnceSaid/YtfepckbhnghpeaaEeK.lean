/-
  To which place a packet goes, which configurations may be: by value. Conditions: the configuration's cells are numbers of their kinds.
-/
import Derived.Test.YtfepckbhnghpeaaNear
import Derived.Test.YtfepckbhnghpeaaRRight
import Derived.Test.YtfepckbhnghpeaaK15
import Derived.Test.YtfepckbhnghpeaaK5
import Derived.Test.YtfepckbhnghpeaaK12
namespace Go.Proofs.Ytfepckbhnghpeaa.V
open Go.RowKit

def fewP (p : Pkt) : Pkt := { p with opts := p.opts.take 50, data := p.data.take 300 }
theorem fewP_ok {p : Pkt} (h : p.ok) : (fewP p).ok := ⟨h.tos, h.id, h.off, h.ttl, h.proto, h.src, h.dst, fun c hc => h.opts c (List.mem_of_mem_take hc), fun c hc => h.data c (List.mem_of_mem_take hc)⟩
theorem fewP_len (p : Pkt) : (fewP p).opts.length ≤ 50 ∧ (fewP p).data.length ≤ 300 := by
  unfold fewP
  simp only [List.length_take]
  omega
theorem rFewP_fn (p : Pkt) : Fn Try.prog 7 [.agg (pktD p)] fun d => d = .agg (pktD (fewP p)) := by
  refine fnOf [] Try.func7 rfl (by kernel_rfl) (Nat.le_of_ble_eq_true rfl) ?_
  have h1 := fewC_fn p.opts 50 (by decide)
  have h2 := fewC_fn p.data 300 (by decide)
  conv => whnf
  (refine CallVC.pure (h1) rfl ?_; rintro _ rfl; conv => whnf)
  (refine CallVC.pure (h2) rfl ?_; rintro _ rfl; conv => whnf)
  rfl

/-! ### A configuration -/
def cfgW (c : Nat → Int) : Prop := ∀ (i : Nat) (k : IntKind), confKs[i]? = some k → (Lit.int k (c i)).wf = true
theorem cfgC_at (c : Nat → Int) : ∀ (i : Nat) (k : IntKind), confKs[i]? = some k → (cfgC c)[i]? = some (.v (.int k (c i)))
  | 0, k, h => by injection h with h; subst h; rfl
  | 1, k, h => by injection h with h; subst h; rfl
  | 2, k, h => by injection h with h; subst h; rfl
  | 3, k, h => by injection h with h; subst h; rfl
  | 4, k, h => by injection h with h; subst h; rfl
  | 5, k, h => by injection h with h; subst h; rfl
  | 6, k, h => by injection h with h; subst h; rfl
  | 7, k, h => by injection h with h; subst h; rfl
  | 8, k, h => by injection h with h; subst h; rfl
  | 9, k, h => by injection h with h; subst h; rfl
  | 10, k, h => by injection h with h; subst h; rfl
  | 11, k, h => by injection h with h; subst h; rfl
  | 12, k, h => by injection h with h; subst h; rfl
  | 13, k, h => by injection h with h; subst h; rfl
  | 14, k, h => by injection h with h; subst h; rfl
  | 15, k, h => by injection h with h; subst h; rfl
  | 16, k, h => by injection h with h; subst h; rfl
  | 17, k, h => by injection h with h; subst h; rfl
  | 18, k, h => by injection h with h; subst h; rfl
  | 19, k, h => by injection h with h; subst h; rfl
  | 20, k, h => by injection h with h; subst h; rfl
  | 21, k, h => by injection h with h; subst h; rfl
  | 22, k, h => by injection h with h; subst h; rfl
  | 23, k, h => by injection h with h; subst h; rfl
  | 24, k, h => by injection h with h; subst h; rfl
  | 25, k, h => by injection h with h; subst h; rfl
  | 26, k, h => by injection h with h; subst h; rfl
  | 27, k, h => by injection h with h; subst h; rfl
  | 28, k, h => by injection h with h; subst h; rfl
  | 29, k, h => by injection h with h; subst h; rfl
  | 30, k, h => by injection h with h; subst h; rfl
  | 31, k, h => by injection h with h; subst h; rfl
  | 32, k, h => by injection h with h; subst h; rfl
  | 33, k, h => by injection h with h; subst h; rfl
  | 34, k, h => by injection h with h; subst h; rfl
  | 35, k, h => by injection h with h; subst h; rfl
  | 36, k, h => by injection h with h; subst h; rfl
  | 37, k, h => by injection h with h; subst h; rfl
  | 38, k, h => by injection h with h; subst h; rfl
  | 39, k, h => by injection h with h; subst h; rfl
  | i + 40, k, h => by simp [confKs] at h
theorem conf_of {C : Ctx} {c : Nat → Int} {u : Value} (h : Rep C (.agg (cfgC c)) u) (hw : cfgW c) : ∃ cs, u = .agg cs ∧ IsConf cs c := by
  cases h with
  | agg hs hh =>
    rename_i cs
    refine ⟨cs, rfl, hs, fun i k hk => ?_, hw⟩
    have h1 := cfgC_at c i k hk
    obtain ⟨u, hu⟩ : ∃ u, cs[i]? = some u := ⟨_, Array.getElem?_eq_getElem (by rw [hs]; exact (List.getElem?_eq_some_iff.1 h1).1)⟩
    rw [hu, rep_v (hh i _ u h1 hu)]
theorem cfgW_u32 {c : Nat → Int} (h : cfgW c) : (0 ≤ c 12 ∧ c 12 ≤ 4294967295) ∧ (0 ≤ c 13 ∧ c 13 ≤ 4294967295) ∧ (0 ≤ c 16 ∧ c 16 ≤ 4294967295) :=
  ⟨wf_u32 (h 12 _ rfl), wf_u32 (h 13 _ rfl), wf_u32 (h 16 _ rfl)⟩
theorem cfgW_ok {c : Nat → Int} (h : cfgW c) : cfgOk c := fun i h1 h2 => by
  have hk : confKs[i]? = some .i64 := by
    obtain ⟨j, rfl⟩ : ∃ j, i = 23 + j := ⟨i - 23, by omega⟩
    have hj : j < 17 := by omega
    clear h1 h2
    revert hj
    revert j
    decide
  exact wf_i64 (h i _ hk)

/-! ### Places -/
def ofN (a : Int) (c : Nat → Int) : (Int × Int) × Int :=
  if specB a then ((0, 0), 2) else if hostB a (c 12) (c 14) then ((0, a), 0) else if hostB a (c 13) (c 15) then ((1, a), 0)
  else if inB a (c 12) (c 14) then ((0, 0), 2) else if inB a (c 13) (c 15) then ((0, 0), 2)
  else if hostB (c 16) (c 12) (c 14) then ((0, c 16), 0) else if hostB (c 16) (c 13) (c 15) then ((1, c 16), 0) else ((0, 0), 8)
abbrev ofD (a : Int) (c : Nat → Int) : D := .tup [.agg (plC (ofN a c).1), intD (ofN a c).2]
theorem ofV_eq (a : Int) (c : Nat → Int) : ofV a c = .tuple #[.agg #[.int .i64 (ofN a c).1.1, .int .u32 (ofN a c).1.2], .int .i64 (ofN a c).2] := by
  unfold ofV ofN Go.Proofs.Ytfepckbhnghpeaa.placeV
  repeat' split
  all_goals rfl
theorem rep_of (C : Ctx) (a : Int) (c : Nat → Int) : Rep C (ofD a c) (ofV a c) := by
  rw [ofV_eq]
  refine .tup rfl fun j d u hd hu => ?_
  match j, hd, hu with
  | 0, hd, hu =>
    injection hd with hd
    subst hd
    obtain rfl : (Value.agg #[.int .i64 (ofN a c).1.1, .int .u32 (ofN a c).1.2]) = u := by simpa using hu
    refine .agg rfl fun j d u hd hu => ?_
    match j, hd, hu with
    | 0, hd, hu =>
      injection hd with hd
      subst hd
      obtain rfl : (Value.int .i64 (ofN a c).1.1) = u := by simpa using hu
      exact .v
    | 1, hd, hu =>
      injection hd with hd
      subst hd
      obtain rfl : (Value.int .u32 (ofN a c).1.2) = u := by simpa using hu
      exact .v
    | j + 2, hd, _ => simp [plC] at hd
  | 1, hd, hu =>
    injection hd with hd
    subst hd
    obtain rfl : (Value.int .i64 (ofN a c).2) = u := by simpa using hu
    exact .v
  | j + 2, hd, _ => simp at hd
theorem routeOf_fn (c : Nat → Int) (hw : cfgW c) (a : Int) (a0 : 0 ≤ a) (a1 : a ≤ 4294967295) : Fn Try.prog 25 [.agg (cfgC c), u32D a] fun d => d = ofD a c := by
  refine ⟨⟨_, Try.func25, rfl⟩, fun w B vs _ hr => ?_⟩
  obtain ⟨hlen, hrep⟩ := hr
  match vs, hlen, hrep with
  | [u, v], _, hrep =>
    obtain ⟨cs, rfl, hc⟩ := conf_of (hrep 0 _ u rfl rfl) hw
    obtain rfl := rep_v (hrep 1 (u32D a) v rfl rfl)
    refine (calls_drawn (of_any cs c a w hc a0 a1)).mono fun e w' hh => ?_
    obtain ⟨⟨rfl, hbel⟩, hdr⟩ := hh
    exact ⟨_, _, rfl, rfl, ⟨hbel, hdr ⟨_, rfl⟩⟩, rep_of _ a c⟩
theorem rRight_fn (c : Nat → Int) (hw : cfgW c) : Fn Try.prog 4 [.agg (cfgC c)] fun d => d = boolD (rightR c) := by
  refine ⟨⟨_, Try.func4, rfl⟩, fun w B vs _ hr => ?_⟩
  obtain ⟨hlen, hrep⟩ := hr
  match vs, hlen, hrep with
  | [u], _, hrep =>
    obtain ⟨cs, rfl, hc⟩ := conf_of (hrep 0 _ u rfl rfl) hw
    refine (calls_drawn (rright_any cs c w hc)).mono fun e w' hh => ?_
    obtain ⟨⟨rfl, hbel⟩, hdr⟩ := hh
    exact ⟨_, _, rfl, rfl, ⟨hbel, hdr ⟨_, rfl⟩⟩, .v⟩
theorem hostF_fn (a n b : Int) (ha : 0 ≤ a ∧ a ≤ 4294967295) (hn : 0 ≤ n ∧ n ≤ 4294967295) : Fn Try.prog 30 [u32D a, u32D n, intD b] fun d => d = boolD (hostB a n b) :=
  fnStill (vs := [.int .u32 a, .int .u32 n, .int .i64 b]) ⟨_, Try.func30, rfl⟩ (fun w => host_any a n b w ha.1 ha.2 hn.1 hn.2)
attribute [local irreducible] Fn FnN FnR OpVC DLe
end Go.Proofs.Ytfepckbhnghpeaa.V
