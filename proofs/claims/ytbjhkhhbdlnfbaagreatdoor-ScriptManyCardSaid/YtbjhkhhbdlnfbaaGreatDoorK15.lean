/-
  What a play asks of a host, by value: a tick of no length. Conditions: none.
  The law ScriptMany by value, where lives is true. Conditions: numbers of their types.
-/
import Derived.Test.YtbjhkhhbdlnfbaaGreatDoorMnaK
import Derived.Test.YtbjhkhhbdlnfbaaGreatDoorK3
import Derived.Test.YtbjhkhhbdlnfbaaGreatDoorK14
namespace Go.Proofs.YtbjhkhhbdlnfbaaGreatDoor.V
open Go.RowKit
attribute [local irreducible] Fn FnN OpVC DLe

abbrev nilD : D := .v (.slice none 0 0)
def tkE : List D := [intD 4, intD 0, intD 0, nilD, u64N 0, u64N 0]
def encT (_ : Unit) : List D := tkE
abbrev rowsK (n : Nat) : D := .rows Unit 6 encT (List.replicate n ())
theorem rowsK_le (n : Nat) : DLe (rowsK n) (rowsS (List.replicate n tk)) := by
  unfold DLe
  intro C v hv
  cases hv with
  | rows b o g hc hp hl hcell hrep =>
    rename_i p c
    have hlen : (List.replicate n ()).length = (List.replicate n tk).length := by simp
    rw [hlen] at hc ⊢
    refine .rows b o g hc (fun h => hp fun h' => h ?_) (fun i x hx => ?_) (fun i x j d hx hd => ?_) (fun i x j d hx hd => ?_)
    · rw [List.replicate_eq_nil_iff] at h' ⊢; exact h'
    all_goals
      have hi : i < n := by have := (List.getElem?_eq_some_iff.1 hx).1; simpa using this
      obtain rfl : x = tk := tks_mem x (List.mem_of_getElem? hx)
      have hu : (List.replicate n ())[i]? = some () := by rw [List.getElem?_replicate, if_pos hi]
    · rfl
    · have hj : j < 6 := by have := (List.getElem?_eq_some_iff.1 hd).1; exact this
      exact hcell i () j tkE[j] hu (List.getElem?_eq_getElem (l := tkE) hj)
    · have hj : j < 6 := by have := (List.getElem?_eq_some_iff.1 hd).1; exact this
      have hr := hrep i () j tkE[j] hu (List.getElem?_eq_getElem (l := tkE) hj)
      rcases (by omega : j = 0 ∨ j = 1 ∨ j = 2 ∨ j = 3 ∨ j = 4 ∨ j = 5) with rfl | rfl | rfl | rfl | rfl | rfl
      all_goals
        obtain rfl : _ = d := by simpa [stD, tk] using hd
      case inr.inr.inr.inl =>
        have h := DLe.nil (α := Nat) 1 byN
        unfold DLe at h
        exact h _ _ hr
      all_goals exact hr

theorem usual_fn : Fn Tryz.prog 20 [] fun d => d = .agg usualD := by
  refine fnOf [] Tryz.func20 rfl (by kernel_rfl) (Nat.le_of_ble_eq_true rfl) ?_
  conv => whnf
  rfl
theorem mayTk_fn : Fn Tryz.prog 61 [.agg tkE] fun d => d = boolD true := by
  refine fnOf [] Tryz.func61 rfl (by kernel_rfl) (Nat.le_of_ble_eq_true rfl) ?_
  conv => whnf
  rfl
theorem do_fn (l : List D) : Fn Tryz.prog 43 [.fp l, .agg tkE] fun d => d = intD 0 := by
  refine fnOf [] Tryz.func43 rfl (by kernel_rfl) (Nat.le_of_ble_eq_true rfl) ?_
  conv => whnf
  refine CallVC.pure mayTk_fn rfl ?_
  rintro _ rfl
  conv => whnf
  refine ⟨Unit, fun _ => ⟨[(51, intD 0), (50, intD 0)], [], 0, ([], 0)⟩, fun _ => True, fun _ => 0, ⟨(), [], [], ?_, trivial⟩, fun _ _ => ?_⟩
  · repeat' (first | exact trivial | exact .inl (DLe.refl _) | exact .inl (DLe.nil _ _) | (refine .inr ⟨rfl, _, ?_, rfl⟩; rfl) | exact rfl | exact .inl rfl | exact .inr ⟨rfl, rfl, rfl, rfl⟩ | exact Nat.zero_le _ | constructor)
  conv => whnf
end Go.Proofs.YtbjhkhhbdlnfbaaGreatDoor.V
namespace Go.Proofs.YtbjhkhhbdlnfbaaGreatDoor.V
open Go.RowKit
attribute [local irreducible] Fn FnN OpVC DLe

def mnT (k : Nat) : Nat → List Nat
  | 0 => rep noL k
  | n + 1 => mnT k n ++ tkL
theorem mnT_eq (k : Nat) : ∀ n, mnT k n = rep noL k ++ rep tkL n
  | 0 => (List.append_nil _).symm
  | n + 1 => by rw [mnT, mnT_eq k n, rep, List.append_assoc]
theorem mnT_len (k n : Nat) : (mnT k n).length = k * 7 + n * 7 := by rw [mnT_eq, List.length_append, rep_len, rep_len]; rfl
theorem textK_fn (n : Nat) (h : n ≤ 1000) : Fn Tryz.prog 14 [rowsK n] fun d => d = textD (textS (List.replicate n tk)) := by
  refine Fn.le (stext_fn (List.replicate n tk) (by rw [List.length_replicate]; exact h) (tks_ok n)) fun C vs hr => ⟨hr.1, fun j d u hd hu => ?_⟩
  have hle := rowsK_le n
  unfold DLe at hle
  match j, hd with
  | 0, hd =>
    obtain rfl : _ = d := by simpa using hd
    exact hle _ _ (hr.2 0 _ u rfl hu)
  | j + 1, hd => simp at hd
def zeros37 : List D := [.v (.int .u32 0), .v (.int .u32 0), .v (.int .u32 0), .v (.int .u32 0), .v (.int .u32 0), .v (.int .u32 0), .v (.int .u32 0), .v (.int .u32 0), .v (.int .u32 0), .v (.int .u32 0), .v (.int .u32 0), .v (.int .u32 0), .v (.int .u32 0), .v (.int .u32 0), .v (.int .u32 0), .v (.int .u32 0), .v (.int .u32 0), .v (.int .u32 0), .v (.int .u32 0), .v (.int .u32 0), .v (.int .u32 0), .v (.int .u32 0), .v (.int .u32 0), .v (.int .u32 0), .v (.int .u32 0), .v (.int .u32 0), .v (.int .u32 0), .v (.int .u32 0), .v (.int .u32 0), .v (.int .u32 0), .v (.int .u32 0), .v (.int .u32 0), .v (.int .u32 0), .v (.int .u32 0), .v (.int .u32 0), .v (.int .u32 0), .v (.int .u32 0)]
def encC (_ : Unit) : List D := [intD 0]
set_option maxHeartbeats 4000000 in
theorem scriptMany_fn (hlv : Fn Tryz.prog 13 [] fun d => d = boolD true) (more blank : Int) : Fn Tryz.prog 5 [intD more, intD blank] fun d => d = boolD true := by
  refine fnOf [] Tryz.func5 rfl (by kernel_rfl) (Nat.le_of_ble_eq_true rfl) ?_
  conv => whnf
  refine Fork.intro (fun _ => ?_) (fun h1 => ?_)
  · conv => whnf
    refine CallVC.pure hlv rfl ?_
    rintro _ rfl
    conv => whnf
  conv => whnf
  refine Fork.intro (fun _ => ?_) (fun h2 => ?_)
  · conv => whnf
    refine CallVC.pure hlv rfl ?_
    rintro _ rfl
    conv => whnf
  conv => whnf
  refine Fork.intro (fun _ => ?_) (fun h3 => ?_)
  · conv => whnf
    refine CallVC.pure hlv rfl ?_
    rintro _ rfl
    conv => whnf
  conv => whnf
  refine Fork.intro (fun _ => ?_) (fun h4 => ?_)
  · conv => whnf
    refine CallVC.pure hlv rfl ?_
    rintro _ rfl
    conv => whnf
  have h1 := of_decide_eq_false h1
  have h2 := of_decide_eq_false h2
  have h3 := of_decide_eq_false h3
  have h4 := of_decide_eq_false h4
  obtain ⟨m, rfl⟩ : ∃ m : Nat, more = m := ⟨more.toNat, by omega⟩
  obtain ⟨b, rfl⟩ : ∃ b : Nat, blank = b := ⟨blank.toNat, by omega⟩
  conv => whnf
  refine ⟨Nat, fun k => ⟨[(7, intD k), (6, strD (rep noL k)), (5, nilD), (1, intD b), (0, intD m)], [], 0, ([], 0)⟩, fun k => k ≤ b, fun k => b - k, ⟨0, [], [], ?_, Nat.zero_le _⟩, ?_⟩
  · repeat' (first | exact trivial | exact .inl (DLe.refl _) | exact .inl (DLe.nil _ _) | (refine .inr ⟨rfl, _, ?_, rfl⟩; rfl) | exact rfl | exact .inl rfl | exact .inr ⟨rfl, rfl, rfl, rfl⟩ | exact Nat.zero_le _ | constructor)
  intro k hk
  replace hk : k ≤ b := hk
  have e0 := wrap_nx (n := k) (by omega)
  have hrl := rep_len noL k
  conv => whnf
  refine Fork.intro (fun q1 => ?_) (fun q1 => ?_)
  · have q1 := of_decide_eq_true q1
    conv => whnf
    refine ⟨cat_le (a := rep noL k) (b := noL) rfl rfl (by rw [hrl]; show k * 7 + 7 ≤ _; omega), ?_⟩
    rw [catR (w := noL) (b := ⟨#[35, 32, 110, 111, 110, 101, 10]⟩) rfl]
    conv => whnf
    rw [e0]
    refine ⟨k + 1, [], [], ?_, by show k + 1 ≤ b; omega, by show b - (k + 1) < b - k; omega⟩
    repeat' (first | exact trivial | exact .inl (DLe.refl _) | exact .inl (DLe.nil _ _) | (refine .inr ⟨rfl, _, ?_, rfl⟩; rfl) | exact rfl | exact .inl rfl | exact .inr ⟨rfl, rfl, rfl, rfl⟩ | exact Nat.zero_le _ | constructor)
  have q1 := of_decide_eq_false q1
  obtain rfl : k = b := by omega
  clear e0 q1 hk
  conv => whnf
  obtain ⟨N, hN⟩ : ∃ N : Nat, N = 400 + m := ⟨_, rfl⟩
  refine ⟨Nat, fun n => ⟨[(8, intD n), (6, strD (mnT k n)), (5, .grow 0), (1, intD k), (0, intD m)], [(0, .grow Unit 27 6 encT (List.replicate n ()))], 1, ([], 0)⟩, fun n => n ≤ N, fun n => N - n, ⟨0, [], [0], ?_, Nat.zero_le _⟩, ?_⟩
  · repeat' (first | exact trivial | exact .inl (DLe.refl _) | exact .inl (DLe.nil _ _) | (refine .inr ⟨rfl, _, ?_, rfl⟩; rfl) | exact rfl | exact .inl rfl | exact .inr ⟨rfl, rfl, rfl, rfl⟩ | exact Nat.zero_le _ | constructor)
  intro n hn
  replace hn : n ≤ N := hn
  have e0 := wrap_nx (n := n) (by omega)
  have em : IntKind.i64.wrap (400 + (m : Int)) = ((N : Nat) : Int) := by
    have := wrap_nx (n := 399 + m) (by omega)
    rw [show (400 + (m : Int)) = ((399 + m : Nat) : Int) + 1 by omega, this, show 399 + m + 1 = N by omega]
  have hrt := mnT_len k n
  conv => whnf
  rw [em]
  refine Fork.intro (fun q1 => ?_) (fun q1 => ?_)
  · have q1 := of_decide_eq_true q1
    conv => whnf
    refine ⟨by decide, ?_⟩
    conv => whnf
    refine ⟨Unit, encT, List.replicate (n + 1) (), (by rw [List.replicate_succ', List.map_append]; rfl), fun _ => rfl, by rw [List.length_replicate]; omega, by rw [List.length_replicate]; show (n + 1) * 64 ≤ _; omega, rfl, ?_⟩
    conv => whnf
    refine ⟨cat_le (a := mnT k n) (b := tkL) rfl rfl (by rw [hrt]; show k * 7 + n * 7 + 7 ≤ _; omega), ?_⟩
    rw [catR (w := tkL) (b := ⟨#[116, 105, 99, 107, 32, 48, 10]⟩) rfl]
    conv => whnf
    rw [e0]
    refine ⟨n + 1, [(0, 1)], [], ?_, by show n + 1 ≤ N; omega, by show N - (n + 1) < N - n; omega⟩
    repeat' (first | exact trivial | exact .inl (DLe.refl _) | exact .inl (DLe.nil _ _) | (refine .inr ⟨rfl, _, ?_, rfl⟩; rfl) | exact rfl | exact .inl rfl | exact .inr ⟨rfl, rfl, rfl, rfl⟩ | exact Nat.zero_le _ | constructor)
  have q1 := of_decide_eq_false q1
  obtain rfl : n = N := by omega
  clear e0 q1 hn
  have hsb : Byt (mnT k n) := by rw [mnT_eq]; exact byt_app (rep_byt noL_byt _) (rep_byt tkL_byt _)
  have ht := textK_fn n (by omega)
  have hp := parse_fn (mnT k n) hsb (by omega)
  by_cases hm : m = 0
  · rw [text_fit (by omega)] at ht
    rw [mnT_eq, parse_fit (by omega), ← mnT_eq] at hp
    conv => whnf
    refine CallVC.snap ht ?_
    rintro _ rfl
    refine ⟨rfl, ?_⟩
    conv => whnf
    refine CallVC.pure hp rfl ?_
    rintro _ rfl
    conv => whnf
    refine CallVC.pure usual_fn rfl ?_
    rintro _ rfl
    conv => whnf
    refine goIn [] Tryz.func19 rfl (by kernel_rfl) (Nat.le_of_ble_eq_true rfl) ?_
    conv => whnf
    refine new_vc ?_
    conv => whnf
    refine Fork.intro (fun g => absurd (of_decide_eq_true g) (by rw [List.length_replicate]; omega)) (fun _ => ?_)
    conv => whnf
    refine ⟨Nat, fun j => ⟨[(26, intD j), (25, intD (List.replicate n ()).length), (24, .grow 0), (8, .loc 4 0), (6, .loc 3 0), (4, .loc 2 0)],
      [(0, .grow Unit 27 6 encT (List.replicate n ())), (2, .cells 56 (nilD :: nilD :: zeros37)), (3, .cells 130 hostD), (4, .cells 56 (.grow 5 :: nilD :: zeros37)), (5, .grow Unit 29 1 encC (List.replicate j ()))], 6, ([0], 1)⟩, fun j => j ≤ n, fun j => n - j, ⟨0, [], [5], ?_, Nat.zero_le _⟩, ?_⟩
    · repeat' (first | exact trivial | exact .inl (DLe.refl _) | exact .inl (DLe.nil _ _) | (refine .inr ⟨rfl, _, ?_, rfl⟩; rfl) | exact rfl | exact .inl rfl | exact .inr ⟨rfl, rfl, rfl, rfl⟩ | exact Nat.zero_le _ | constructor)
    intro j hj
    replace hj : j ≤ n := hj
    have e0 := wrap_nx (n := j) (by omega)
    conv => whnf
    refine Fork.intro (fun q2 => ?_) (fun q2 => ?_)
    · have q2 := of_decide_eq_true q2
      have q3 : j < n := by rw [List.length_replicate] at q2; omega
      conv => whnf
      refine ⟨rfl, ⟨by omega, q2⟩, ?_⟩
      conv => whnf
      refine ⟨rfl, by rw [List.length_replicate]; exact q3, fun x _ => ?_⟩
      conv => whnf
      refine CallVC.snap (do_fn _) ?_
      rintro _ rfl
      refine ⟨rfl, ?_⟩
      conv => whnf
      refine ⟨by decide, ?_⟩
      conv => whnf
      refine ⟨Unit, encC, List.replicate (j + 1) (), (by rw [List.replicate_succ', List.map_append]; rfl), fun _ => rfl, by rw [List.length_replicate]; omega, by rw [List.length_replicate]; show (j + 1) * 8 ≤ _; omega, rfl, ?_⟩
      conv => whnf
      rw [e0]
      refine ⟨j + 1, [(5, 7)], [], ?_, by show j + 1 ≤ n; omega, by show n - (j + 1) < n - j; omega⟩
      repeat' (first | exact trivial | exact .inl (DLe.refl _) | exact .inl (DLe.nil _ _) | (refine .inr ⟨rfl, _, ?_, rfl⟩; rfl) | exact rfl | exact .inl rfl | exact .inr ⟨rfl, rfl, rfl, rfl⟩ | exact Nat.zero_le _ | constructor)
    · have q2 := of_decide_eq_false q2
      obtain rfl : j = n := by rw [List.length_replicate] at q2; omega
      conv => whnf
      refine goIn [] Tryz.func44 rfl (by kernel_rfl) (Nat.le_of_ble_eq_true rfl) ?_
      conv => whnf
      refine goIn [] Tryz.func45 rfl (by kernel_rfl) (Nat.le_of_ble_eq_true rfl) ?_
      conv => whnf
      refine Fork.intro (fun _ => ?_) (fun g => absurd (of_decide_eq_false g) (by omega))
      conv => whnf
      refine Fork.intro (fun _ => ?_) (fun g => absurd (of_decide_eq_false g) (by simp only [List.length_replicate]; omega))
      conv => whnf
      refine Fork.intro (fun _ => ?_) (fun g => absurd (of_decide_eq_false g) (by simp only [List.length_replicate]; omega))
      conv => whnf
      refine CallVC.pure hlv rfl ?_
      rintro _ rfl
      conv => whnf
  · rw [text_big (by omega)] at ht
    rw [mnT_eq, parse_big (by omega), ← mnT_eq] at hp
    obtain ⟨at_, hat⟩ : ∃ a : Int, a = ((k + 401 : Nat) : Int) := ⟨_, rfl⟩
    rw [← hat] at hp
    have ek : IntKind.i64.wrap ((k : Int) + 401) = at_ := by
      have := wrap_nx (n := k + 400) (by omega)
      rw [show ((k : Int) + 401) = ((k + 400 : Nat) : Int) + 1 by omega, this, hat]
    clear hat
    conv => whnf
    refine CallVC.snap ht ?_
    rintro _ rfl
    refine ⟨rfl, ?_⟩
    conv => whnf
    refine CallVC.pure hp rfl ?_
    rintro _ rfl
    conv => whnf
    refine CallVC.pure usual_fn rfl ?_
    rintro _ rfl
    conv => whnf
    refine goIn [] Tryz.func19 rfl (by kernel_rfl) (Nat.le_of_ble_eq_true rfl) ?_
    conv => whnf
    refine new_vc ?_
    conv => whnf
    refine Fork.intro (fun _ => ?_) (fun g => absurd (of_decide_eq_false g) (by rw [List.length_replicate]; omega))
    conv => whnf
    refine Fork.intro (fun g => absurd (of_decide_eq_true g) (by omega)) (fun _ => ?_)
    conv => whnf
    refine Fork.intro (fun _ => ?_) (fun g => absurd (of_decide_eq_false g) (by simp only [ek, not_true_eq_false, not_false_eq_true]))
    conv => whnf
    refine CallVC.pure hlv rfl ?_
    rintro _ rfl
    conv => whnf
end Go.Proofs.YtbjhkhhbdlnfbaaGreatDoor.V
