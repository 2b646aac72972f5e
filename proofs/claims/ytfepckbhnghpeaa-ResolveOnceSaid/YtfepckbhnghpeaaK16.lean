/-
  A net's own cells, frozen; the frames that it sends. Conditions: the configuration's cells are numbers of their kinds; rows not too long.
  What is found in a cache, whatever order a region has: exact blocks that a call leaves as they are. No condition.
  A net's New, Send by value (the program's). Conditions: the configuration's cells are numbers of their kinds; few bytes.
-/
import Derived.Test.YtfepckbhnghpeaaEeK
import Derived.Test.YtfepckbhnghpeaaK13
namespace Go.Proofs.Ytfepckbhnghpeaa.V
open Go.RowKit

section
variable {P : Program} {E : Env} {s : St} {σ : Nat → Nat} {τ : Nat → Value} {a : Act} {w : World} {K : D → St → Prop} {f : FuncId} {args : List D}
theorem CallVC.wk {g : Bool} {args0 : List D} (hle : ∀ C vs, reps C args vs → reps C args0 vs) (h : CallVC P g f args0 s K) : CallVC P g f args s K :=
  ⟨h.left, fun E σ τ a w args' hs hr => h.right E σ τ a w args' hs (hle _ _ hr)⟩
end
theorem dle_fpj (l : List D) (d : D) : DLe (.fp (l ++ [d])) (.fp (l ++ [.junk])) := fun C v h => by
  cases h with
  | fp g hk hcell hrep =>
    have hat : ∀ (j : Nat) x, (l ++ [D.junk])[j]? = some x → (j < l.length ∧ (l ++ [d])[j]? = some x) ∨ (j = l.length ∧ x = .junk) := fun j x hx => by
      rcases Nat.lt_or_ge j l.length with hj | hj
      · left
        rw [List.getElem?_append_left hj] at hx ⊢
        exact ⟨hj, hx⟩
      · right
        rw [List.getElem?_append_right hj] at hx
        have hlt := (List.getElem?_eq_some_iff.1 hx).1
        simp only [List.length_cons, List.length_nil] at hlt
        have : j = l.length := by omega
        subst this
        rw [Nat.sub_self] at hx
        injection hx with hx
        exact ⟨rfl, hx.symm⟩
    refine .fp g hk (fun j x hx => ?_) fun j x hx => ?_
    · rcases hat j x hx with ⟨_, h⟩ | ⟨rfl, _⟩
      · exact hcell j x h
      · exact hcell l.length d (by rw [List.getElem?_append_right (Nat.le_refl _), Nat.sub_self]; rfl)
    · rcases hat j x hx with ⟨_, h⟩ | ⟨_, rfl⟩
      · exact hrep j x h
      · exact .junk
attribute [local irreducible] Fn FnN FnR OpVC DLe ArC ArL Ob ObS NewS

abbrev netJ (c : Nat → Int) : D := .fp (cfgC c ++ [.junk])
def cfgZ (c : Nat → Int) (z : Nat → Nat) : Prop := ∀ i, i < 14 → c i = (z i : Int)
def macZ (z : Nat → Nat) (nic : Int) : List Nat := match decide (nic = 0) with
  | true => [z 0, z 1, z 2, z 3, z 4, z 5]
  | false => [z 6, z 7, z 8, z 9, z 10, z 11]
def addrZ (z : Nat → Nat) (nic : Int) : Nat := match decide (nic = 0) with
  | true => z 12
  | false => z 13
abbrev Sn2 := Int × List Nat
def sentC (x : Sn2) : List D := [intD x.1, octR x.2]
abbrev sentsR (l : List Sn2) : D := .rows Sn2 2 sentC l
def frameS (z : Nat → Nat) (nic : Int) (dst : List Nat) (l : List Nat) : Sn2 := (nic, putE ⟨dst, macZ z nic, 2048, l⟩)
def askS (z : Nat → Nat) (k : Int × Int) : Sn2 := (k.1, putE ⟨[255, 255, 255, 255, 255, 255], macZ z k.1, 2054, putA ⟨1, macZ z k.1, addrZ z k.1, [0, 0, 0, 0, 0, 0], k.2.toNat⟩⟩)
set_option maxRecDepth 10000 in
theorem frame_fn (c : Nat → Int) (z : Nat → Nat) (hz : cfgZ c z) (nic : Int) (hn : nic = 0 ∨ nic = 1) (x0 x1 x2 x3 x4 x5 : Nat) (l : List Nat) (hl : l.length ≤ 900000) : Fn Try.prog 27 [netJ c, intD nic, .agg (m6D [x0, x1, x2, x3, x4, x5]), octR l] fun d => d = .agg (sentC (frameS z nic [x0, x1, x2, x3, x4, x5] l)) := by
  refine fnOf [] Try.func27 rfl (by kernel_rfl) (Nat.le_of_ble_eq_true rfl) ?_
  rcases hn with rfl | rfl
  · have hp := etherPut_fn x0 x1 x2 x3 x4 x5 (z 0) (z 1) (z 2) (z 3) (z 4) (z 5) 2048 l hl
    have e0 := hz 0 (by decide)
    have e1 := hz 1 (by decide)
    have e2 := hz 2 (by decide)
    have e3 := hz 3 (by decide)
    have e4 := hz 4 (by decide)
    have e5 := hz 5 (by decide)
    conv => whnf
    (refine ⟨by decide, ?_⟩; conv => whnf)
    rw [e0, e1, e2, e3, e4, e5]
    (refine CallVC.pure (hp) rfl ?_; rintro _ rfl; conv => whnf)
    try rfl
  · have hp := etherPut_fn x0 x1 x2 x3 x4 x5 (z 6) (z 7) (z 8) (z 9) (z 10) (z 11) 2048 l hl
    have e6 := hz 6 (by decide)
    have e7 := hz 7 (by decide)
    have e8 := hz 8 (by decide)
    have e9 := hz 9 (by decide)
    have e10 := hz 10 (by decide)
    have e11 := hz 11 (by decide)
    conv => whnf
    (refine ⟨by decide, ?_⟩; conv => whnf)
    rw [e6, e7, e8, e9, e10, e11]
    (refine CallVC.pure (hp) rfl ?_; rintro _ rfl; conv => whnf)
    try rfl
set_option maxRecDepth 10000 in
theorem ask_fn (c : Nat → Int) (z : Nat → Nat) (hz : cfgZ c z) (k : Int × Int) (hn : k.1 = 0 ∨ k.1 = 1) (hk : 0 ≤ k.2) : Fn Try.prog 29 [netJ c, .agg (plC k)] fun d => d = .agg (sentC (askS z k)) := by
  refine fnOf [(1, [1001, 0, 1, 2, 3, 4, 5, 6, 7, 8, 9, 10, 11, 12, 13, 14, 15, 16, 17])] Try.func29 rfl (by kernel_rfl) (Nat.le_of_ble_eq_true rfl) ?_
  obtain ⟨k1, k2⟩ := k
  obtain ⟨n2, rfl⟩ : ∃ n : Nat, k2 = n := ⟨k2.toNat, by have : 0 ≤ k2 := hk; omega⟩
  have ha := etherAll_fn
  rcases hn with h | h
  · obtain rfl : k1 = 0 := h
    have hq := arpAsk_fn (z 12) n2 (z 0) (z 1) (z 2) (z 3) (z 4) (z 5)
    have hf := arpFrame_fn 1 (z 12) n2 (z 0) (z 1) (z 2) (z 3) (z 4) (z 5) 0 0 0 0 0 0 255 255 255 255 255 255
    have hp := etherPut_fn 255 255 255 255 255 255 (z 0) (z 1) (z 2) (z 3) (z 4) (z 5) 2054 (putA ⟨1, [z 0, z 1, z 2, z 3, z 4, z 5], z 12, [0, 0, 0, 0, 0, 0], n2⟩) (by simp [putA, firstA, b2, b4])
    have e0 := hz 0 (by decide)
    have e1 := hz 1 (by decide)
    have e2 := hz 2 (by decide)
    have e3 := hz 3 (by decide)
    have e4 := hz 4 (by decide)
    have e5 := hz 5 (by decide)
    have e12 := hz 12 (by decide)
    conv => whnf
    refine ⟨Unit, fun _ => ⟨[(5, .loc 2 0), (4, .loc 1 0), (3, .loc 0 0)], [(2, .cells 43 (arpD ⟨1, [z 0, z 1, z 2, z 3, z 4, z 5], z 12, [0, 0, 0, 0, 0, 0], n2⟩)), (1, .cells 57 [intD 0, .v (.slice none 0 0)]), (0, .cells 78 [intD 0, u32D n2])], 3, ([], 0)⟩, ?_, fun _ => ?_⟩
    · refine ⟨(show (0 : Int) ≤ 0 ∧ (0 : Int) < ((2 : Nat) : Int) by decide), ?_⟩
      conv => whnf
      refine ⟨(show (0 : Int) ≤ 0 ∧ (0 : Int) < ((2 : Nat) : Int) by decide), ?_⟩
      conv => whnf
      rw [e0, e1, e2, e3, e4, e5, e12]
      · refine ⟨?_, ?_, trivial⟩
        · conv => whnf
          refine CallVC.pure hq rfl ?_
          rintro _ rfl
          conv => whnf
          refine ⟨?_, trivial⟩
          · conv => whnf
            refine ⟨?_, trivial⟩
            · conv => whnf
              refine ⟨(), [], [], ?_⟩
              repeat' (first | exact trivial | exact .inl (DLe.refl _) | exact .inl (DLe.nil _ _) | (refine .inr ⟨rfl, _, ?_, rfl⟩; rfl) | exact rfl | exact .inl rfl | exact .inr ⟨rfl, rfl, rfl, rfl⟩ | exact Nat.zero_le _ | constructor)
        · conv => whnf
          refine ⟨?_, trivial⟩
          · conv => whnf
            refine CallVC.pure hq rfl ?_
            rintro _ rfl
            conv => whnf
            refine ⟨?_, trivial⟩
            · conv => whnf
              refine ⟨(), [], [], ?_⟩
              repeat' (first | exact trivial | exact .inl (DLe.refl _) | exact .inl (DLe.nil _ _) | (refine .inr ⟨rfl, _, ?_, rfl⟩; rfl) | exact rfl | exact .inl rfl | exact .inr ⟨rfl, rfl, rfl, rfl⟩ | exact Nat.zero_le _ | constructor)
    conv => whnf
    (refine CallVC.pure (ha) rfl ?_; rintro _ rfl; conv => whnf)
    (refine CallVC.pure (hf) rfl ?_; rintro _ rfl; conv => whnf)
    (refine CallVC.pure (hp) rfl ?_; rintro _ rfl; conv => whnf)
    try rfl
  · obtain rfl : k1 = 1 := h
    have hq := arpAsk_fn (z 13) n2 (z 6) (z 7) (z 8) (z 9) (z 10) (z 11)
    have hf := arpFrame_fn 1 (z 13) n2 (z 6) (z 7) (z 8) (z 9) (z 10) (z 11) 0 0 0 0 0 0 255 255 255 255 255 255
    have hp := etherPut_fn 255 255 255 255 255 255 (z 6) (z 7) (z 8) (z 9) (z 10) (z 11) 2054 (putA ⟨1, [z 6, z 7, z 8, z 9, z 10, z 11], z 13, [0, 0, 0, 0, 0, 0], n2⟩) (by simp [putA, firstA, b2, b4])
    have e6 := hz 6 (by decide)
    have e7 := hz 7 (by decide)
    have e8 := hz 8 (by decide)
    have e9 := hz 9 (by decide)
    have e10 := hz 10 (by decide)
    have e11 := hz 11 (by decide)
    have e13 := hz 13 (by decide)
    conv => whnf
    refine ⟨Unit, fun _ => ⟨[(5, .loc 2 0), (4, .loc 1 0), (3, .loc 0 0)], [(2, .cells 43 (arpD ⟨1, [z 6, z 7, z 8, z 9, z 10, z 11], z 13, [0, 0, 0, 0, 0, 0], n2⟩)), (1, .cells 57 [intD 0, .v (.slice none 0 0)]), (0, .cells 78 [intD 1, u32D n2])], 3, ([], 0)⟩, ?_, fun _ => ?_⟩
    · refine ⟨(show (0 : Int) ≤ 1 ∧ (1 : Int) < ((2 : Nat) : Int) by decide), ?_⟩
      conv => whnf
      refine ⟨(show (0 : Int) ≤ 1 ∧ (1 : Int) < ((2 : Nat) : Int) by decide), ?_⟩
      conv => whnf
      rw [e6, e7, e8, e9, e10, e11, e13]
      · refine ⟨?_, ?_, trivial⟩
        · conv => whnf
          refine CallVC.pure hq rfl ?_
          rintro _ rfl
          conv => whnf
          refine ⟨?_, trivial⟩
          · conv => whnf
            refine ⟨?_, trivial⟩
            · conv => whnf
              refine ⟨(), [], [], ?_⟩
              repeat' (first | exact trivial | exact .inl (DLe.refl _) | exact .inl (DLe.nil _ _) | (refine .inr ⟨rfl, _, ?_, rfl⟩; rfl) | exact rfl | exact .inl rfl | exact .inr ⟨rfl, rfl, rfl, rfl⟩ | exact Nat.zero_le _ | constructor)
        · conv => whnf
          refine ⟨?_, trivial⟩
          · conv => whnf
            refine CallVC.pure hq rfl ?_
            rintro _ rfl
            conv => whnf
            refine ⟨?_, trivial⟩
            · conv => whnf
              refine ⟨(), [], [], ?_⟩
              repeat' (first | exact trivial | exact .inl (DLe.refl _) | exact .inl (DLe.nil _ _) | (refine .inr ⟨rfl, _, ?_, rfl⟩; rfl) | exact rfl | exact .inl rfl | exact .inr ⟨rfl, rfl, rfl, rfl⟩ | exact Nat.zero_le _ | constructor)
    conv => whnf
    (refine CallVC.pure (ha) rfl ?_; rintro _ rfl; conv => whnf)
    (refine CallVC.pure (hf) rfl ?_; rintro _ rfl; conv => whnf)
    (refine CallVC.pure (hp) rfl ?_; rintro _ rfl; conv => whnf)
    try rfl
end Go.Proofs.Ytfepckbhnghpeaa.V
namespace Go.Proofs.Ytfepckbhnghpeaa.V
open Go.RowKit

def allV (l : List D) : Bool := l.all fun d => match d with
  | .v _ => true
  | _ => false
theorem exact_of {el : TypeId} {l : List D} (h : allV l = true) : (It.cells el l).exact := fun d hd => by
  have := (List.all_eq_true.1 h) d hd
  split at this
  · exact ⟨_, rfl⟩
  · cases this
noncomputable def exAr (M : Ar) : Ar := fun k => match M k with
  | some x => @ite _ x.exact (Classical.propDecidable _) (some x) none
  | none => none
theorem exAr_of {M : Ar} {k : Nat} {x : It} (h : exAr M k = some x) : M k = some x ∧ x.exact := by
  unfold exAr at h
  split at h
  · rename_i y hy
    by_cases he : y.exact
    · rw [if_pos he] at h; injection h with h; subst h; exact ⟨hy, he⟩
    · rw [if_neg he] at h; cases h
  · cases h
theorem exAr_in {M : Ar} {k : Nat} {x : It} (h : M k = some x) (he : x.exact) : exAr M k = some x := by
  unfold exAr
  rw [h]
  exact if_pos he

section
variable {P : Program} {s : St} {K : D → St → Prop} {f : FuncId} {args : List D}
theorem CallVC.arX {g : Bool} {i : Nat} {S : Nat → Prop} {M M0 : Ar} {Q : D → Ar → Prop} (hf : ArC P f args M0 Q) (hid : lget s.H i = some (V.arL S M)) (hcut : args.all (cutOk 6 0) = true) (hsub : ∀ k x, M0 k = some x → M k = some x) (hex : ∀ k x, M0 k = some x → x.exact) (hQ : ∀ d M', Q d M' → M' = M0)
    (h : ∀ d, Q d M0 → K d s) : CallVC P g f args s K := by
  refine ⟨hf.1, fun E σ τ a w args' hs hr => ?_⟩
  have hSM := (hs.heap.obj i _ hid).2.1
  have hr' : reps (baseCtx w (ctxOf E s.H s.nx σ τ w).ok) args args' := ⟨hr.1, fun j d u hd hu => cut_still (all_at hcut hd) (hr.2 j d u hd hu)⟩
  refine (hf.2 w _ args' (fun k hk => ⟨hk.2.1, ?_⟩) (fun k x hx => ar_at hs hid (hsub k x hx)) hr').mono fun e w' hh => ?_
  · cases hq : M0 k with
    | none => rfl
    | some x => exact absurd ((owned_ar hid).2 ((hSM k).2 ⟨x, hsub k x hq⟩)) (hk.2.2 i)
  obtain ⟨d, v, M', hq, rfl, ht, hM', hd⟩ := hh
  obtain rfl := hQ d M' hq
  have hbel : Below w.heap.size w w' := ⟨ht.os, ht.tape, ht.output, ht.size, fun k hk => by
    cases hq2 : M' k with
    | none => exact ht.block k hk hq2
    | some x => exact It.same (hex k x hq2) (ar_at hs hid (hsub k x hq2)) (hM' k x hq2).2⟩
  have hu : Under w.heap.size w w' := ⟨hbel, ht.drawn⟩
  refine ⟨d, s, σ, τ, v, h d hq, rfl, below_state hs hu, hd.mono ⟨fun _ _ _ h => h, fun k hk => ?_, fun _ _ _ h => h.elim, fun _ _ h => h.elim, fun _ _ _ h => h.elim⟩, fun _ => hbel⟩
  obtain ⟨h1, h2, h3⟩ := hk
  rcases h1 with h1 | ⟨y, h1⟩ | h1
  · exact ⟨h1.1, h3, h1.2.2⟩
  · rw [h2] at h1; cases h1
  · exact ⟨.inr (.inr (Nat.le_trans hs.heap.kept.size h1)), h3, fun id ho => absurd (owned_lt hs.heap ho) (by omega)⟩
end
attribute [local irreducible] Fn FnN FnR OpVC DLe ArC ArL Ob ObS NewS

structure Holds (M : Ar) (d : CDat) : Prop where
  hdr : M d.cg = some (.cells 108 (hdrC d))
  map : M d.mg = some (.ob (mapO d))
  pr : ∀ p ∈ d.L, M p.g = some (.cells 117 (prC p))
theorem get_gen (M : Ar) (d : CDat) (h : COk d) (hM : Holds M d) (k : Int × Int) (hk : keyW k) : ArC Try.prog 52 [ptrD d.cg, .agg (plC k)] M fun r M' => M' = M ∧ (((∀ p ∈ d.L, p.pl.key ≠ k) ∧ r = .v (.pointer none)) ∨ ∃ p ∈ d.L, p.pl.key = k ∧ r = ptrD p.g) := by
  refine arOf [] Try.func52 rfl (by kernel_rfl) (Nat.le_of_ble_eq_true rfl) fun S => ?_
  obtain ⟨lk, hlk⟩ := place_key k hk
  have hh := hM.hdr
  have hm := hM.map
  have hL := ent_keys h
  conv => whnf
  refine pv_isNil (b := false) ttH rfl rfl rfl (.inl ⟨rfl, rfl⟩) ?_
  conv => whnf
  refine pv_nil rfl ?_
  conv => whnf
  refine pv_field ttH rfl rfl rfl ?_
  conv => whnf
  refine pv_loadA (i := 0) ttH rfl rfl rfl hh rfl ?_
  conv => whnf
  refine op_lookupA (i := 0) (z := .pointer none) (L := d.L.map entP) (vs := [.int .i64 k.1, .int .u32 k.2]) rfl Try.underlying106 (by kernel_rfl) place_law rfl rfl rfl hm hlk hL (fun hno => ?_) (fun e he hek => ?_)
  · conv => whnf
    exact .done _ _ rfl rfl ⟨rfl, .inl ⟨fun p hp e => hno (entP p) (List.mem_map.2 ⟨p, hp, rfl⟩) (by rw [← e]; rfl), rfl⟩⟩
  · obtain ⟨p, hp, rfl⟩ := List.mem_map.1 he
    conv => whnf
    exact .done _ _ rfl rfl ⟨rfl, .inr ⟨p, hp, placeV_inj hek, rfl⟩⟩
set_option maxHeartbeats 4000000 in
theorem find_gen (M : Ar) (d : CDat) (h : COk d) (hM : Holds M d) (k : Int × Int) (hk : keyW k) : ArC Try.prog 26 [ptrD d.cg, .agg (plC k)] M fun r M' => M' = M ∧ (((∀ p ∈ d.L, p.pl.key ≠ k) ∧ r = .tup [macD mac0, boolD false]) ∨ ∃ p ∈ d.L, p.pl.key = k ∧ r = match p.pl.known with
      | true => .tup [macD p.pl.mac, boolD true]
      | false => .tup [macD mac0, boolD false]) := by
  refine arOf [] Try.func26 rfl (by kernel_rfl) (Nat.le_of_ble_eq_true rfl) fun S => ?_
  have hg := get_gen M d h hM k hk
  have hh := hM.hdr
  conv => whnf
  refine CallVC.ar (i := 0) hg rfl rfl ?_
  rintro _ _ S1 ⟨rfl, (⟨hno, rfl⟩ | ⟨p, hp, hpk, rfl⟩)⟩
  · conv => whnf
    exact .done _ _ rfl rfl ⟨rfl, .inl ⟨hno, rfl⟩⟩
  · have hpr := hM.pr p hp
    conv => whnf
    refine pv_isNil (b := false) ttH rfl rfl rfl (.inl ⟨rfl, rfl⟩) ?_
    conv => whnf
    refine pv_nil rfl ?_
    conv => whnf
    refine pv_field ttH rfl rfl rfl ?_
    conv => whnf
    refine pv_loadA (i := 0) ttH rfl rfl rfl hpr rfl ?_
    cases hkn : p.pl.known with
    | false =>
      conv => whnf
      exact .done _ _ rfl rfl ⟨rfl, .inr ⟨p, hp, hpk, by rw [hkn]; rfl⟩⟩
    | true =>
      conv => whnf
      refine pv_nil rfl ?_
      conv => whnf
      refine pv_field ttH rfl rfl rfl ?_
      conv => whnf
      refine pv_loadA (i := 0) ttH rfl rfl rfl hpr rfl ?_
      conv => whnf
      exact .done _ _ rfl rfl ⟨rfl, .inr ⟨p, hp, hpk, by rw [hkn]; rfl⟩⟩
theorem CallVC.find {g : Bool} {s : St} {K : D → St → Prop} {i : Nat} {S : Nat → Prop} {d : CDat} {T : List Pl} {k : Int × Int} (hid : lget s.H i = some (V.arL S (cacheM d))) (hst : CStand d T) (hk : keyW k) (h : K (macT T k) s) : CallVC Try.prog g 26 [ptrD d.cg, .agg (plC k)] s K := by
  have hM : Holds (exAr (cacheM d)) d := ⟨exAr_in cache_hdr (exact_of rfl), exAr_in (cache_map hst.ok) trivial, fun p hp => exAr_in (cache_pr hst.ok hp) (exact_of rfl)⟩
  refine CallVC.arX (i := i) (find_gen _ d hst.ok hM k hk) hid rfl (fun k x hx => (exAr_of hx).1) (fun k x hx => (exAr_of hx).2) (fun d M' hq => hq.1) fun r hq => ?_
  have e : r = macT T k := by
    unfold macT
    obtain ⟨_, ⟨h1, rfl⟩ | ⟨p, hp, rfl, rfl⟩⟩ := hq
    · rw [hst.none h1]
    · rw [hst.find hp]
      rfl
  rw [e]
  exact h
end Go.Proofs.Ytfepckbhnghpeaa.V
namespace Go.Proofs.Ytfepckbhnghpeaa.V
open Go.RowKit
attribute [local irreducible] Fn FnN FnR OpVC DLe ArC ArL Ob ObS NewS

abbrev netP (c : Nat → Int) (cg : Nat) : D := .fp (cfgC c ++ [ptrD cg])
theorem upd_back {M : Ar} {g : Nat} {x : It} (h : M g = none) : (M.upd g (some x)).upd g none = M := by
  funext k
  by_cases hk : k = g
  · subst hk; rw [Ar.upd_same, h]
  · rw [Ar.upd_ne _ _ hk, Ar.upd_ne _ _ hk]
theorem fp_thaw {C : Ctx} {g : Nat} {el : TypeId} {l : List D} {v : Value} (hok : C.ok g) (hat : (It.cells el l).at C.still g) (hr : Rep C (.v (.pointer (some ⟨g, 0, none⟩))) v) : Rep C (.fp l) v := by
  have hr := rep_v hr
  subst hr
  obtain ⟨c, h2, h3⟩ := hat
  have h2 : C.w.heap[g]? = some (.cells c el (0, 0)) := h2
  have hget : ∀ (j : Nat) d, l[j]? = some d → ∃ u, c[j]? = some u := fun j d hd => by
    have hj := (List.getElem?_eq_some_iff.1 hd).1
    exact ⟨_, Array.getElem?_eq_getElem (by rw [← Array.length_toList, h3.1]; exact hj)⟩
  refine .fp (fun j => (c[j]?).getD undef) hok (fun j d hd => ?_) fun j d hd => ?_
  · obtain ⟨u, hu⟩ := hget j d hd
    simp [World.cell?, h2, hu]
  · obtain ⟨u, hu⟩ := hget j d hd
    rw [hu]
    exact (h3.2 j d u hd (by rw [Array.getElem?_toList]; exact hu)).mono (still_le C)
theorem snew_ar (c : Nat → Int) (now : Int) : ArC Try.prog 6 [.agg (cfgC c), intD now] (fun _ => none) fun r M => ∃ cg mg, COk (cdat0 cg mg c (min (max now 0) 1073741824)) ∧ M = cacheM (cdat0 cg mg c (min (max now 0) 1073741824)) ∧ r = netP c cg := by
  refine arOf [] Try.func6 rfl (by kernel_rfl) (Nat.le_of_ble_eq_true rfl) fun S => ?_
  have hnew := cnew_ar c now
  conv => whnf
  refine CallVC.arN (i := 0) hnew rfl rfl (fun _ => rfl) ?_
  rintro _ _ S1 ⟨cg, mg, hok, rfl, rfl⟩
  conv => whnf
  refine .abs 2 _ _ 72 (cfgC c ++ [ptrD cg]) rfl rfl rfl fun g S2 hg => ?_
  refine .thw (d' := netP c cg) S2 _ g (.cells 72 (cfgC c ++ [ptrD cg])) rfl (Ar.upd_same _ _ _) (fun C v hok hat hr => ?_) fun S3 => ?_
  · exact fp_thaw hok hat hr
  · refine .done S3 _ rfl rfl ⟨cg, mg, hok, ?_, rfl⟩
    exact upd_back hg

/-! ### What is sent -/
def macNL (m : Nat → Int) : List Nat := [(m 0).toNat, (m 1).toNat, (m 2).toNat, (m 3).toNat, (m 4).toNat, (m 5).toNat]
def MacN (m : Nat → Int) : Prop := ∀ i, 0 ≤ m i
theorem macC_nat {m : Nat → Int} (h : MacN m) : macC m = m6D (macNL m) := by
  have e : ∀ i, ((m i).toNat : Int) = m i := fun i => Int.toNat_of_nonneg (h i)
  show [u8D (m 0), u8D (m 1), u8D (m 2), u8D (m 3), u8D (m 4), u8D (m 5)] = [u8D ((m 0).toNat : Int), u8D ((m 1).toNat : Int), u8D ((m 2).toNat : Int), u8D ((m 3).toNat : Int), u8D ((m 4).toNat : Int), u8D ((m 5).toNat : Int)]
  rw [e, e, e, e, e, e]
def knownT (T : List Pl) (k : Int × Int) : Option (Nat → Int) := match findT T k with
  | some x => match x.known with
    | true => some x.mac
    | false => none
  | none => none
theorem mac_known (T : List Pl) (k : Int × Int) : macT T k = match knownT T k with
    | some m => .tup [macD m, boolD true]
    | none => .tup [macD mac0, boolD false] := by
  unfold macT knownT
  cases findT T k with
  | none => rfl
  | some x =>
    dsimp only
    cases x.known <;> rfl
theorem known_mem {T : List Pl} {k : Int × Int} {m : Nat → Int} (h : knownT T k = some m) : ∃ x ∈ T, x.mac = m := by
  unfold knownT at h
  split at h
  · rename_i x hx
    split at h
    · injection h with h
      exact ⟨x, (findT_mem hx).1, h⟩
    · cases h
  · cases h
def waitS (z : Nat → Nat) (dst : Int × Int) (r : (Bool × Int) × List Pl) : (List Sn2 × Int) × List Pl := match decide (r.1.2 = 0) with
  | false => (([], 6), r.2)
  | true => match r.1.1 with
    | true => (([askS z dst], -1), r.2)
    | false => (([], -1), r.2)
def sendT (c : Nat → Int) (z : Nat → Nat) (now : Int) (T : List Pl) (p : Pkt) : (List Sn2 × Int) × List Pl :=
  match mayP p with
  | false => (([], 18), T)
  | true => match decide (c 17 < ((putP p).length : Int)) with
    | true => (([], 18), T)
    | false => match decide ((ofN p.dst c).2 = 0) with
      | false => (([], 26), T)
      | true => match knownT T (ofN p.dst c).1 with
        | some m => (([frameS z (ofN p.dst c).1.1 (macNL m) (putP p)], -1), T)
        | none => waitS z (ofN p.dst c).1 (wantT c now T (ofN p.dst c).1 (putP p))
theorem ofN_ok {c : Nat → Int} (hw : cfgW c) {a : Int} (ha : 0 ≤ a ∧ a ≤ 4294967295) : ((ofN a c).1.1 = 0 ∨ (ofN a c).1.1 = 1) ∧ 0 ≤ (ofN a c).1.2 ∧ (ofN a c).1.2 < 4294967296 := by
  obtain ⟨w12, w13, w16⟩ := cfgW_u32 hw
  unfold ofN
  repeat' split
  all_goals
    dsimp only
    omega
theorem putP_len {p : Pkt} (h : p.opts.length ≤ 50 ∧ p.data.length ≤ 300) : (putP p).length ≤ 370 := by
  unfold putP
  rw [List.length_append, headP_len]
  omega
theorem sentQ (x : Sn2) {e : Int} : DLe (.tup [.lit 2 [sentC x], intD e]) (.tup [sentsR [x], intD e]) :=
  dleTup ⟨dleLitQ (L := [x]) (fun y d hd => by
    simp only [sentC, List.mem_cons, List.not_mem_nil, or_false] at hd
    rcases hd with rfl | rfl <;> rfl), DLe.refl _, trivial⟩
theorem sentN {e : Int} : DLe (.tup [.v (.slice none 0 0), intD e]) (.tup [sentsR [], intD e]) := dleTup ⟨DLe.nil _ _, DLe.refl _, trivial⟩
set_option maxRecDepth 10000 in
set_option maxHeartbeats 8000000 in
theorem send_ar (z : Nat → Nat) (d : CDat) (T : List Pl) (p : Pkt) (hw : cfgW d.c) (hz : cfgZ d.c z) (hst : CStand d T) (ht : TOk T) (hm : ∀ x ∈ T, MacN x.mac) (hn : 0 ≤ d.now ∧ d.now ≤ 2000000000) (hwt : waitsT T ≤ 1000000) (hp : p.ok) (hl : p.opts.length ≤ 50 ∧ p.data.length ≤ 300) :
    ArC Try.prog 8 [netP d.c d.cg, .agg (pktD p)] (cacheM d) fun r M => r = .tup [sentsR (sendT d.c z d.now T p).1.1, intD (sendT d.c z d.now T p).1.2] ∧ ∃ d', M = cacheM d' ∧ d'.cg = d.cg ∧ d'.c = d.c ∧ d'.now = d.now ∧ CStand d' (sendT d.c z d.now T p).2 := by
  refine arOf [(6, [1001, 0, 1, 2, 3, 4, 5, 7, 8, 9, 12]), (9, [1001, 0, 1, 2, 3, 4, 6, 7, 8, 11]), (12, [0, 1, 2, 3, 4, 5, 5006, 7, 8, 9, 10, 11])] Try.func8 rfl (by kernel_rfl) (Nat.le_of_ble_eq_true rfl) fun S => ?_
  have hput := ipPut_fn p hp (by omega) (by omega)
  have hof := routeOf_fn d.c hw (p.dst : Int) (by omega) (by have := hp.dst; omega)
  have hok := ofN_ok hw (a := (p.dst : Int)) (by have := hp.dst; omega)
  have hplen := putP_len hl
  unfold ofD at hof
  unfold sendT
  generalize ofN (p.dst : Int) d.c = O at hof hok ⊢
  obtain ⟨dst, x⟩ := O
  obtain ⟨hd1, hd2⟩ := hok
  dsimp only at hof hd1 hd2 ⊢
  unfold ipB at hput
  cases hmay : mayP p with
  | false =>
    rw [hmay] at hput
    conv => whnf
    (refine CallVC.pure (hput) rfl ?_; rintro _ rfl; conv => whnf)
    exact .le sentN (.done S _ rfl rfl ⟨rfl, d, rfl, rfl, rfl, rfl, hst⟩)
  | true =>
    rw [hmay] at hput
    dsimp only at hput ⊢
    generalize hB : putP p = B at hput hplen ⊢
    conv => whnf
    (refine CallVC.pure (hput) rfl ?_; rintro _ rfl; conv => whnf)
    cases hlt : decide (d.c 17 < (B.length : Int)) with
    | true =>
      conv => whnf
      exact .le sentN (.done S _ rfl rfl ⟨rfl, d, rfl, rfl, rfl, rfl, hst⟩)
    | false =>
    conv => whnf
    refine ⟨Unit, fun _ => ⟨[(8, .loc 2 0), (7, intD x), (6, octR B), (3, .loc 1 0), (0, netP d.c d.cg)], [(2, .cells 78 (plC dst)), (1, .cells 41 (pktD p)), (0, arL S (cacheM d))], 3, ([], 0)⟩, ?_, fun _ => ?_⟩
    · refine ⟨?_, ?_, trivial⟩
      · conv => whnf
        refine CallVC.pure hof rfl ?_
        rintro _ rfl
        conv => whnf
        refine ⟨?_, trivial⟩
        · conv => whnf
          refine ⟨?_, trivial⟩
          · conv => whnf
            refine ⟨(), [], [], ?_⟩
            repeat' (first | exact trivial | exact .inl (DLe.refl _) | exact .inl (DLe.nil _ _) | (refine .inr ⟨rfl, _, ?_, rfl⟩; rfl) | exact rfl | exact .inl rfl | exact .inr ⟨rfl, rfl, rfl, rfl⟩ | exact Nat.zero_le _ | constructor)
      · conv => whnf
        refine ⟨?_, trivial⟩
        · conv => whnf
          refine CallVC.pure hof rfl ?_
          rintro _ rfl
          conv => whnf
          refine ⟨?_, trivial⟩
          · conv => whnf
            refine ⟨(), [], [], ?_⟩
            repeat' (first | exact trivial | exact .inl (DLe.refl _) | exact .inl (DLe.nil _ _) | (refine .inr ⟨rfl, _, ?_, rfl⟩; rfl) | exact rfl | exact .inl rfl | exact .inr ⟨rfl, rfl, rfl, rfl⟩ | exact Nat.zero_le _ | constructor)
    conv => whnf
    cases hx : decide (x = 0) with
    | false =>
      conv => whnf
      exact .le sentN (.done S _ rfl rfl ⟨rfl, d, rfl, rfl, rfl, rfl, hst⟩)
    | true =>
    have hmk := mac_known T dst
    have hkw : keyW dst := ⟨hd2, by omega, by omega⟩
    conv => whnf
    cases hkn : knownT T dst with
    | some m =>
      obtain ⟨y, hy, hym⟩ := known_mem hkn
      have hmn : MacN m := hym ▸ hm y hy
      rw [hkn] at hmk
      dsimp only at hmk
      have hmac : macT T dst = .tup [.agg (m6D (macNL m)), boolD true] := by rw [hmk]; unfold macD; rw [macC_nat hmn]
      have hf := frame_fn d.c z hz dst.1 hd1 (m 0).toNat (m 1).toNat (m 2).toNat (m 3).toNat (m 4).toNat (m 5).toNat B (by omega)
      refine ⟨Unit, fun _ => ⟨[(10, boolD true), (9, .loc 3 0), (8, .loc 2 0), (6, octR B), (0, netP d.c d.cg)], [(3, .cells 23 (m6D (macNL m))), (2, .cells 78 (plC dst)), (1, .cells 41 (pktD p)), (0, arL S (cacheM d))], 4, ([], 0)⟩, ?_, fun _ => ?_⟩
      · refine ⟨?_, ?_, trivial⟩
        · conv => whnf
          refine CallVC.find (i := 0) rfl hst hkw ?_
          rw [hmac]
          conv => whnf
          refine ⟨?_, trivial⟩
          · conv => whnf
            refine ⟨?_, trivial⟩
            · conv => whnf
              refine ⟨(), [], [], ?_⟩
              repeat' (first | exact trivial | exact .inl (DLe.refl _) | exact .inl (DLe.nil _ _) | (refine .inr ⟨rfl, _, ?_, rfl⟩; rfl) | exact rfl | exact .inl rfl | exact .inr ⟨rfl, rfl, rfl, rfl⟩ | exact Nat.zero_le _ | constructor)
        · conv => whnf
          refine ⟨?_, trivial⟩
          · conv => whnf
            refine CallVC.find (i := 0) rfl hst hkw ?_
            rw [hmac]
            conv => whnf
            refine ⟨?_, trivial⟩
            · conv => whnf
              refine ⟨(), [], [], ?_⟩
              repeat' (first | exact trivial | exact .inl (DLe.refl _) | exact .inl (DLe.nil _ _) | (refine .inr ⟨rfl, _, ?_, rfl⟩; rfl) | exact rfl | exact .inl rfl | exact .inr ⟨rfl, rfl, rfl, rfl⟩ | exact Nat.zero_le _ | constructor)
      conv => whnf
      refine CallVC.wk (fun C vs hr => reps_one (l := []) (dle_fpj _ _) hr) (CallVC.pure hf rfl ?_)
      rintro _ rfl
      conv => whnf
      refine ⟨by decide, ?_⟩
      conv => whnf
      exact .le (sentQ _) (.done S _ rfl rfl ⟨rfl, d, rfl, rfl, rfl, rfl, hst⟩)
    | none =>
      rw [hkn] at hmk
      dsimp only at hmk
      have hmac : macT T dst = .tup [.agg (macC mac0), boolD false] := hmk
      have hwant := want_ar d T hst ht dst hkw B (by omega) hn hwt
      have hf := ask_fn d.c z hz dst hd1 hd2.1
      refine ⟨Unit, fun _ => ⟨[(10, boolD false), (9, .loc 3 0), (8, .loc 2 0), (6, octR B), (0, netP d.c d.cg)], [(3, .cells 23 (macC mac0)), (2, .cells 78 (plC dst)), (1, .cells 41 (pktD p)), (0, arL S (cacheM d))], 4, ([], 0)⟩, ?_, fun _ => ?_⟩
      · refine ⟨?_, ?_, trivial⟩
        · conv => whnf
          refine CallVC.find (i := 0) rfl hst hkw ?_
          rw [hmac]
          conv => whnf
          refine ⟨?_, trivial⟩
          · conv => whnf
            refine ⟨?_, trivial⟩
            · conv => whnf
              refine ⟨(), [], [], ?_⟩
              repeat' (first | exact trivial | exact .inl (DLe.refl _) | exact .inl (DLe.nil _ _) | (refine .inr ⟨rfl, _, ?_, rfl⟩; rfl) | exact rfl | exact .inl rfl | exact .inr ⟨rfl, rfl, rfl, rfl⟩ | exact Nat.zero_le _ | constructor)
        · conv => whnf
          refine ⟨?_, trivial⟩
          · conv => whnf
            refine CallVC.find (i := 0) rfl hst hkw ?_
            rw [hmac]
            conv => whnf
            refine ⟨?_, trivial⟩
            · conv => whnf
              refine ⟨(), [], [], ?_⟩
              repeat' (first | exact trivial | exact .inl (DLe.refl _) | exact .inl (DLe.nil _ _) | (refine .inr ⟨rfl, _, ?_, rfl⟩; rfl) | exact rfl | exact .inl rfl | exact .inr ⟨rfl, rfl, rfl, rfl⟩ | exact Nat.zero_le _ | constructor)
      conv => whnf
      unfold waitS
      refine CallVC.ar (i := 0) hwant rfl rfl ?_
      rintro _ _ S1 ⟨rfl, d', rfl, f1, f2, f3, f4⟩
      clear hwant
      generalize wantT d.c d.now T dst B = G at f4 ⊢
      obtain ⟨⟨ask, y⟩, T'⟩ := G
      dsimp only at f4 ⊢
      conv => whnf
      cases hy : decide (y = 0) with
      | false =>
        conv => whnf
        exact .le sentN (.done S1 _ rfl rfl ⟨rfl, d', rfl, f1, f2, f3, f4⟩)
      | true =>
        cases ask with
        | false =>
          conv => whnf
          exact .le sentN (.done S1 _ rfl rfl ⟨rfl, d', rfl, f1, f2, f3, f4⟩)
        | true =>
          conv => whnf
          refine CallVC.wk (fun C vs hr => reps_one (l := []) (dle_fpj _ _) hr) (CallVC.pure hf rfl ?_)
          rintro _ rfl
          conv => whnf
          refine ⟨by decide, ?_⟩
          conv => whnf
          exact .le (sentQ _) (.done S1 _ rfl rfl ⟨rfl, d', rfl, f1, f2, f3, f4⟩)
end Go.Proofs.Ytfepckbhnghpeaa.V
