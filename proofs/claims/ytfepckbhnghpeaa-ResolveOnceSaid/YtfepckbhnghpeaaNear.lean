/-
  Which card is near (layer 25), and to which place a packet goes. Conditions: the configuration's cells are numbers of their kinds.
-/
import Derived.Test.YtfepckbhnghpeaaNets
import Derived.Test.YtfepckbhnghpeaaRow
import Derived.Deep.QuietTactic
import Derived.BigQuiet
namespace Go.Proofs.Ytfepckbhnghpeaa
open Go.RowKit

def confKs : List IntKind := [.u8, .u8, .u8, .u8, .u8, .u8, .u8, .u8, .u8, .u8, .u8, .u8, .u32, .u32, .i64, .i64, .u32, .i64, .u64, .u64, .u64, .u64, .u16, .i64, .i64, .i64, .i64, .i64, .i64, .i64, .i64, .i64, .i64, .i64, .i64, .i64, .i64, .i64, .i64, .i64]

structure IsConf (cs : Array Value) (z : Nat → Int) : Prop where
  size : cs.size = 40
  cell : ∀ (i : Nat) (k : IntKind), confKs[i]? = some k → cs[i]? = some (Value.int k (z i))
  wf : ∀ (i : Nat) (k : IntKind), confKs[i]? = some k → (Lit.int k (z i)).wf = true

theorem wf_u32 {n : Int} (h : (Lit.int .u32 n).wf = true) : 0 ≤ n ∧ n ≤ 4294967295 := by
  simp [Lit.wf, IntKind.min, IntKind.max, IntKind.signed, IntKind.bits] at h; omega
theorem wf_i64 {n : Int} (h : (Lit.int .i64 n).wf = true) : -9223372036854775808 ≤ n ∧ n ≤ 9223372036854775807 := by
  simp [Lit.wf, IntKind.min, IntKind.max, IntKind.signed, IntKind.bits] at h; omega
theorem wf_u8 {n : Int} (h : (Lit.int .u8 n).wf = true) : 0 ≤ n ∧ n ≤ 255 := by
  simp [Lit.wf, IntKind.min, IntKind.max, IntKind.signed, IntKind.bits] at h; omega

def nearV (a : Int) (z : Nat → Int) : Value :=
  if hostB a (z 12) (z 14) then .tuple #[.int .i64 0, .bool true] else if hostB a (z 13) (z 15) then .tuple #[.int .i64 1, .bool true] else .tuple #[.int .i64 0, .bool false]

set_option maxHeartbeats 1000000 in
theorem near_any (cs : Array Value) (z : Nat → Int) (a : Int) (w : World) (hz : IsConf cs z) (a0 : 0 ≤ a) (a1 : a ≤ 4294967295) :
    Calls Try.prog 50 #[.agg cs, .int .u32 a] w fun e w' => e = .returned (nearV a z) ∧ w.alloc (.cells cs 33) = w' := by
  have c12 := hz.cell 12 _ rfl
  have c13 := hz.cell 13 _ rfl
  have c14 := hz.cell 14 _ rfl
  have c15 := hz.cell 15 _ rfl
  obtain ⟨w12, v12⟩ := wf_u32 (hz.wf 12 _ rfl)
  obtain ⟨w13, v13⟩ := wf_u32 (hz.wf 13 _ rfl)
  clear hz
  have HV := Lib.hid (show nearV a z = if hostB a (z 12) (z 14) then .tuple #[.int .i64 0, .bool true] else if hostB a (z 13) (z 15) then .tuple #[.int .i64 1, .bool true] else .tuple #[.int .i64 0, .bool false] from rfl)
  have i0 : ∀ (x y : Value) (w : World), (Instr.index 26 (.agg #[x, y]) (.int .i64 0)).run Try.prog w = .ok x w := fun _ _ _ => by kernel_rfl
  have i1 : ∀ (x y : Value) (w : World), (Instr.index 26 (.agg #[x, y]) (.int .i64 1)).run Try.prog w = .ok y w := fun _ _ _ => by kernel_rfl
  cases h0 : hostB a (z 12) (z 14)
  · cases h1 : hostB a (z 13) (z 15)
    all_goals
      go_enter Try.func50, Try.ntmps50
      go_wp2
      refine wp_loop_rounds 3 ?_
      repeat (rw [rounds_succ]; go_wp2_with (first | (go_at_call 30; refine (host_any _ _ _ _ a0 a1 (by assumption) (by assumption)).mono ?_; rintro e w' ⟨rfl, rfl⟩)))
      refine bodyPost_ret (v := nearV a z) ?_ rfl ⟨rfl, rfl⟩
      rw [HV.out]
      simp [results, Try.results50, go_sem, h0, h1]
  · go_enter Try.func50, Try.ntmps50
    go_wp2
    refine wp_loop_rounds 3 ?_
    rw [rounds_succ]
    go_wp2_with (first | (go_at_call 30; refine (host_any _ _ _ _ a0 a1 (by assumption) (by assumption)).mono ?_; rintro e w' ⟨rfl, rfl⟩))
    refine bodyPost_ret (v := nearV a z) ?_ rfl ⟨rfl, rfl⟩
    rw [HV.out]
    simp [results, Try.results50, go_sem, h0]
theorem config_veil (v : Value) : Instr.loadAt 33 v = rowSem 33 v := rfl
attribute [local go_sem ↓] config_veil

theorem conf_load (cs : Array Value) (w w' : World) (hn : cs.size = 40) (hb : Below (w.alloc (.cells cs 33)).heap.size (w.alloc (.cells cs 33)) w') :
    (rowSem 33 (.pointer (some ⟨w.heap.size, 0, none⟩))).run Try.prog w' = .ok (.agg cs) w' := by
  have hi : (Try.prog.info? 33).map (·.size) = some cs.toList.length := by rw [Array.length_toList, hn]; kernel_rfl
  exact rowSem_range (range_below hb (range_all w cs 33)) Try.underlying33 rfl hi

def placeV (n x e : Int) : Value := .tuple #[.agg #[.int .i64 n, .int .u32 x], .int .i64 e]
def ofV (a : Int) (z : Nat → Int) : Value :=
  if specB a then placeV 0 0 2 else if hostB a (z 12) (z 14) then placeV 0 a 0 else if hostB a (z 13) (z 15) then placeV 1 a 0
  else if inB a (z 12) (z 14) then placeV 0 0 2 else if inB a (z 13) (z 15) then placeV 0 0 2
  else if hostB (z 16) (z 12) (z 14) then placeV 0 (z 16) 0 else if hostB (z 16) (z 13) (z 15) then placeV 1 (z 16) 0 else placeV 0 0 8

set_option maxHeartbeats 2000000 in
theorem of_any (cs : Array Value) (z : Nat → Int) (a : Int) (w : World) (hz : IsConf cs z) (a0 : 0 ≤ a) (a1 : a ≤ 4294967295) :
    Calls Try.prog 25 #[.agg cs, .int .u32 a] w fun e w' => e = .returned (ofV a z) ∧ Below w.heap.size w w' := by
  have c12 := hz.cell 12 _ rfl
  have c13 := hz.cell 13 _ rfl
  have c14 := hz.cell 14 _ rfl
  have c15 := hz.cell 15 _ rfl
  have c16 := hz.cell 16 _ rfl
  obtain ⟨w12, v12⟩ := wf_u32 (hz.wf 12 _ rfl)
  obtain ⟨w13, v13⟩ := wf_u32 (hz.wf 13 _ rfl)
  obtain ⟨w16, v16⟩ := wf_u32 (hz.wf 16 _ rfl)
  have Hz := Lib.hid hz
  have hro1 := conf_load cs w ((w.alloc (.cells cs 33)).alloc (.cells #[.int .i64 0, .int .u32 0] 78)) hz.size (by go_grown)
  have hro2 := conf_load cs w (((w.alloc (.cells cs 33)).alloc (.cells #[.int .i64 0, .int .u32 0] 78)).alloc (.cells cs 33)) hz.size (by go_grown)
  clear hz
  have i0 : ∀ (x y : Value) (w : World), (Instr.index 26 (.agg #[x, y]) (.int .i64 0)).run Try.prog w = .ok x w := fun _ _ _ => by kernel_rfl
  have i1 : ∀ (x y : Value) (w : World), (Instr.index 26 (.agg #[x, y]) (.int .i64 1)).run Try.prog w = .ok y w := fun _ _ _ => by kernel_rfl
  cases hs : specB a
  case true =>
    go_enter Try.func25, Try.ntmps25
    go_wp2_with (first | (go_at_call 49; refine (special_any _ _ a0 a1).mono ?_; rintro e w' ⟨rfl, rfl⟩) | (go_at_call 50; refine (near_any cs z _ _ Hz.out (by assumption) (by assumption)).mono ?_; rintro e w' ⟨rfl, rfl⟩) | (go_at_call 51; refine (in_any _ _ _ _ a0 a1 (by assumption) (by assumption)).mono ?_; rintro e w' ⟨rfl, rfl⟩))
    refine bodyPost_ret (v := ofV a z) ?_ rfl ⟨rfl, by go_grown⟩
    simp [results, Try.results25, go_sem, ofV, placeV, hs]
  cases h0 : hostB a (z 12) (z 14)
  case true =>
    have hn : nearV a z = .tuple #[.int .i64 0, .bool true] := by simp [nearV, h0]
    go_enter Try.func25, Try.ntmps25
    go_wp2_with (first | (go_at_call 49; refine (special_any _ _ a0 a1).mono ?_; rintro e w' ⟨rfl, rfl⟩) | (go_at_call 50; refine (near_any cs z _ _ Hz.out (by assumption) (by assumption)).mono ?_; rintro e w' ⟨rfl, rfl⟩) | (go_at_call 51; refine (in_any _ _ _ _ a0 a1 (by assumption) (by assumption)).mono ?_; rintro e w' ⟨rfl, rfl⟩))
    refine bodyPost_ret (v := ofV a z) ?_ rfl ⟨rfl, by go_grown⟩
    simp [results, Try.results25, go_sem, ofV, placeV, hs, h0]
  cases h1 : hostB a (z 13) (z 15)
  case true =>
    have hn : nearV a z = .tuple #[.int .i64 1, .bool true] := by simp [nearV, h0, h1]
    go_enter Try.func25, Try.ntmps25
    go_wp2_with (first | (go_at_call 49; refine (special_any _ _ a0 a1).mono ?_; rintro e w' ⟨rfl, rfl⟩) | (go_at_call 50; refine (near_any cs z _ _ Hz.out (by assumption) (by assumption)).mono ?_; rintro e w' ⟨rfl, rfl⟩) | (go_at_call 51; refine (in_any _ _ _ _ a0 a1 (by assumption) (by assumption)).mono ?_; rintro e w' ⟨rfl, rfl⟩))
    refine bodyPost_ret (v := ofV a z) ?_ rfl ⟨rfl, by go_grown⟩
    simp [results, Try.results25, go_sem, ofV, placeV, hs, h0, h1]
  have hn : nearV a z = .tuple #[.int .i64 0, .bool false] := by simp [nearV, h0, h1]
  cases h2 : inB a (z 12) (z 14)
  case true =>
    go_enter Try.func25, Try.ntmps25
    go_wp2_with (first | (go_at_call 49; refine (special_any _ _ a0 a1).mono ?_; rintro e w' ⟨rfl, rfl⟩) | (go_at_call 50; refine (near_any cs z _ _ Hz.out (by assumption) (by assumption)).mono ?_; rintro e w' ⟨rfl, rfl⟩) | (go_at_call 51; refine (in_any _ _ _ _ a0 a1 (by assumption) (by assumption)).mono ?_; rintro e w' ⟨rfl, rfl⟩))
    refine wp_loop_rounds 3 ?_
    repeat (rw [rounds_succ]; go_wp2_with (first | (go_at_call 49; refine (special_any _ _ a0 a1).mono ?_; rintro e w' ⟨rfl, rfl⟩) | (go_at_call 50; refine (near_any cs z _ _ Hz.out (by assumption) (by assumption)).mono ?_; rintro e w' ⟨rfl, rfl⟩) | (go_at_call 51; refine (in_any _ _ _ _ a0 a1 (by assumption) (by assumption)).mono ?_; rintro e w' ⟨rfl, rfl⟩)))
    refine bodyPost_ret (v := ofV a z) ?_ rfl ⟨rfl, by go_grown⟩
    simp [results, Try.results25, go_sem, ofV, placeV, hs, h0, h1, h2]
  cases h3 : inB a (z 13) (z 15)
  case true =>
    go_enter Try.func25, Try.ntmps25
    go_wp2_with (first | (go_at_call 49; refine (special_any _ _ a0 a1).mono ?_; rintro e w' ⟨rfl, rfl⟩) | (go_at_call 50; refine (near_any cs z _ _ Hz.out (by assumption) (by assumption)).mono ?_; rintro e w' ⟨rfl, rfl⟩) | (go_at_call 51; refine (in_any _ _ _ _ a0 a1 (by assumption) (by assumption)).mono ?_; rintro e w' ⟨rfl, rfl⟩))
    refine wp_loop_rounds 3 ?_
    repeat (rw [rounds_succ]; go_wp2_with (first | (go_at_call 49; refine (special_any _ _ a0 a1).mono ?_; rintro e w' ⟨rfl, rfl⟩) | (go_at_call 50; refine (near_any cs z _ _ Hz.out (by assumption) (by assumption)).mono ?_; rintro e w' ⟨rfl, rfl⟩) | (go_at_call 51; refine (in_any _ _ _ _ a0 a1 (by assumption) (by assumption)).mono ?_; rintro e w' ⟨rfl, rfl⟩)))
    refine bodyPost_ret (v := ofV a z) ?_ rfl ⟨rfl, by go_grown⟩
    simp [results, Try.results25, go_sem, ofV, placeV, hs, h0, h1, h2, h3]
  cases h4 : hostB (z 16) (z 12) (z 14)
  case true =>
    have hn' : nearV (z 16) z = .tuple #[.int .i64 0, .bool true] := by simp [nearV, h4]
    go_enter Try.func25, Try.ntmps25
    go_wp2_with (first | (go_at_call 49; refine (special_any _ _ a0 a1).mono ?_; rintro e w' ⟨rfl, rfl⟩) | (go_at_call 50; refine (near_any cs z _ _ Hz.out (by assumption) (by assumption)).mono ?_; rintro e w' ⟨rfl, rfl⟩) | (go_at_call 51; refine (in_any _ _ _ _ a0 a1 (by assumption) (by assumption)).mono ?_; rintro e w' ⟨rfl, rfl⟩))
    refine wp_loop_rounds 3 ?_
    repeat (rw [rounds_succ]; go_wp2_with (first | (go_at_call 49; refine (special_any _ _ a0 a1).mono ?_; rintro e w' ⟨rfl, rfl⟩) | (go_at_call 50; refine (near_any cs z _ _ Hz.out (by assumption) (by assumption)).mono ?_; rintro e w' ⟨rfl, rfl⟩) | (go_at_call 51; refine (in_any _ _ _ _ a0 a1 (by assumption) (by assumption)).mono ?_; rintro e w' ⟨rfl, rfl⟩)))
    refine bodyPost_ret (v := ofV a z) ?_ rfl ⟨rfl, by go_grown⟩
    simp [results, Try.results25, go_sem, ofV, placeV, hs, h0, h1, h2, h3, h4]
  cases h5 : hostB (z 16) (z 13) (z 15)
  case true =>
    have hn' : nearV (z 16) z = .tuple #[.int .i64 1, .bool true] := by simp [nearV, h4, h5]
    go_enter Try.func25, Try.ntmps25
    go_wp2_with (first | (go_at_call 49; refine (special_any _ _ a0 a1).mono ?_; rintro e w' ⟨rfl, rfl⟩) | (go_at_call 50; refine (near_any cs z _ _ Hz.out (by assumption) (by assumption)).mono ?_; rintro e w' ⟨rfl, rfl⟩) | (go_at_call 51; refine (in_any _ _ _ _ a0 a1 (by assumption) (by assumption)).mono ?_; rintro e w' ⟨rfl, rfl⟩))
    refine wp_loop_rounds 3 ?_
    repeat (rw [rounds_succ]; go_wp2_with (first | (go_at_call 49; refine (special_any _ _ a0 a1).mono ?_; rintro e w' ⟨rfl, rfl⟩) | (go_at_call 50; refine (near_any cs z _ _ Hz.out (by assumption) (by assumption)).mono ?_; rintro e w' ⟨rfl, rfl⟩) | (go_at_call 51; refine (in_any _ _ _ _ a0 a1 (by assumption) (by assumption)).mono ?_; rintro e w' ⟨rfl, rfl⟩)))
    refine bodyPost_ret (v := ofV a z) ?_ rfl ⟨rfl, by go_grown⟩
    simp [results, Try.results25, go_sem, ofV, placeV, hs, h0, h1, h2, h3, h4, h5]
  case false =>
    have hn' : nearV (z 16) z = .tuple #[.int .i64 0, .bool false] := by simp [nearV, h4, h5]
    go_enter Try.func25, Try.ntmps25
    go_wp2_with (first | (go_at_call 49; refine (special_any _ _ a0 a1).mono ?_; rintro e w' ⟨rfl, rfl⟩) | (go_at_call 50; refine (near_any cs z _ _ Hz.out (by assumption) (by assumption)).mono ?_; rintro e w' ⟨rfl, rfl⟩) | (go_at_call 51; refine (in_any _ _ _ _ a0 a1 (by assumption) (by assumption)).mono ?_; rintro e w' ⟨rfl, rfl⟩))
    refine wp_loop_rounds 3 ?_
    repeat (rw [rounds_succ]; go_wp2_with (first | (go_at_call 49; refine (special_any _ _ a0 a1).mono ?_; rintro e w' ⟨rfl, rfl⟩) | (go_at_call 50; refine (near_any cs z _ _ Hz.out (by assumption) (by assumption)).mono ?_; rintro e w' ⟨rfl, rfl⟩) | (go_at_call 51; refine (in_any _ _ _ _ a0 a1 (by assumption) (by assumption)).mono ?_; rintro e w' ⟨rfl, rfl⟩)))
    refine bodyPost_ret (v := ofV a z) ?_ rfl ⟨rfl, by go_grown⟩
    simp [results, Try.results25, go_sem, ofV, placeV, hs, h0, h1, h2, h3, h4, h5]
end Go.Proofs.Ytfepckbhnghpeaa
