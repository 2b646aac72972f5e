/-
  What holds of a net, whatever happens (plain words). No condition.
  The law ResolveDoes by value, where lives is true. Conditions: numbers of their types. (Printed by gen_en.py.)
  lives of layer 37, by value. No condition.
-/
import Derived.Test.YtfepckbhnghpeaaK17
namespace Go.Proofs.Ytfepckbhnghpeaa.V
open Go.RowKit

theorem want_any {Q : Pl → Prop} {c : Nat → Int} {now : Int} {T : List Pl} (k : Int × Int) (b : List Nat) (hnew : Q ⟨k.1, k.2, false, mac0, 1, now + clampW (c 30), [b]⟩) (hadd : ∀ x ∈ T, Q x → Q { x with ws := x.ws ++ [b] }) (h : ∀ x ∈ T, Q x) : ∀ y ∈ (wantT c now T k b).2, Q y := by
  unfold wantT
  cases hq : findT T k with
  | none =>
    dsimp only
    split
    · intro y hy
      rcases insT_mem.1 hy with rfl | hy
      · exact hnew
      · exact h y hy
    · exact h
  | some x =>
    have hx := (findT_mem hq).1
    dsimp only
    split
    · exact h
    · split
      · exact h
      · intro y hy
        rcases updT_mem hy with rfl | hy
        · exact hadd x hx (h x hx)
        · exact h y hy
theorem learn_any {Q : Pl → Prop} {c : Nat → Int} {now : Int} {T : List Pl} (k : Int × Int) (m : Nat → Int) (add : Bool) (hnew : Q ⟨k.1, k.2, true, m, 0, now + clampW (c 29), []⟩) (h : ∀ x ∈ T, Q x) : ∀ y ∈ (learnT c now T k m add).2, Q y := by
  unfold learnT
  cases hq : findT T k with
  | none =>
    dsimp only
    split
    · intro y hy
      rcases insT_mem.1 hy with rfl | hy
      · exact hnew
      · exact h y hy
    · exact h
  | some x =>
    dsimp only
    intro y hy
    rcases updT_mem hy with rfl | hy
    · exact hnew
    · exact h y hy
theorem tick_any {Q Q' : Pl → Prop} {c : Nat → Int} {now : Int} {T : List Pl} (hold : ∀ x, Q x → Q' x) (hnew : ∀ x, Q x → Q' { x with tries := x.tries + 1, due := now + clampW (c 30) }) (h : ∀ x ∈ T, Q x) : ∀ y ∈ tickT c now T, Q' y := fun y hy => by
  unfold tickT at hy
  obtain ⟨x, hx, e⟩ := List.mem_filterMap.1 hy
  unfold tickX at e
  split at e
  · injection e with e; rw [← e]; exact hold x (h x hx)
  · split at e
    · injection e with e
      rw [← e]
      exact hnew x (h x hx)
    · cases e

theorem putE_len (f : Frm) : (putE f).length = f.dst.length + f.src.length + 2 + f.data.length := by
  unfold putE
  rw [List.length_append, List.length_append, List.length_append]
  rfl
theorem macZ_len (z : Nat → Nat) (nic : Int) : (macZ z nic).length = 6 := by unfold macZ; split <;> rfl
theorem putA_len (a : Arp) : (putA a).length = 16 + a.srcMac.length + a.dstMac.length := by
  unfold putA
  simp only [List.length_append]
  show 6 + 2 + (a.srcMac.length + 4) + (a.dstMac.length + 4) = _
  omega
theorem frameS_len (z : Nat → Nat) (nic : Int) (dst l : List Nat) : (frameS z nic dst l).2.length = dst.length + 8 + l.length := by
  show (putE _).length = _
  rw [putE_len]
  show dst.length + (macZ z nic).length + 2 + l.length = _
  rw [macZ_len]
  try omega
theorem askS_len (z : Nat → Nat) (k : Int × Int) : (askS z k).2.length = 42 := by
  show (putE _).length = _
  rw [putE_len]
  show 6 + (macZ z k.1).length + 2 + (putA _).length = _
  rw [putA_len]
  show 6 + (macZ z k.1).length + 2 + (16 + (macZ z k.1).length + 6) = _
  rw [macZ_len]
theorem answerS_len (z : Nat → Nat) (nic : Int) (a : Arp) : (answerS z nic a).2.length = 30 + 2 * a.srcMac.length := by
  show (putE _).length = _
  rw [putE_len]
  show a.srcMac.length + (macZ z nic).length + 2 + (putA _).length = _
  rw [putA_len]
  show a.srcMac.length + (macZ z nic).length + 2 + (16 + (macZ z nic).length + a.srcMac.length) = _
  rw [macZ_len]
  omega
end Go.Proofs.Ytfepckbhnghpeaa.V
namespace Go.Proofs.Ytfepckbhnghpeaa.V
open Go.RowKit
attribute [local irreducible] Fn FnN FnR OpVC DLe ArC ArL Ob ObS NewS

structure NDe where
  kind : Int
  nic : Int
  p : Pkt
  op : Nat
  x0 : Nat
  x1 : Nat
  x2 : Nat
  x3 : Nat
  x4 : Nat
  x5 : Nat
  sip : Nat
  y0 : Nat
  y1 : Nat
  y2 : Nat
  y3 : Nat
  y4 : Nat
  y5 : Nat
  dip : Nat
def NDe.arp (x : NDe) : Arp := ⟨x.op, [x.x0, x.x1, x.x2, x.x3, x.x4, x.x5], x.sip, [x.y0, x.y1, x.y2, x.y3, x.y4, x.y5], x.dip⟩
structure NDe.ok (x : NDe) : Prop where
  p : x.p.ok
  op : x.op < 65536
  sip : x.sip < 4294967296
  dip : x.dip < 4294967296
def ndC (x : NDe) : List D := [intD x.kind, intD x.nic, u8D x.p.tos, u16D x.p.id, boolD x.p.df, boolD x.p.mf, u16D x.p.off, u8D x.p.ttl, u8D x.p.proto, u32D x.p.src, u32D x.p.dst, octR x.p.opts, octR x.p.data, u16D x.op, u8D x.x0, u8D x.x1, u8D x.x2, u8D x.x3, u8D x.x4, u8D x.x5, u32D x.sip, u8D x.y0, u8D x.y1, u8D x.y2, u8D x.y3, u8D x.y4, u8D x.y5, u32D x.dip]
abbrev ndsR (L : List NDe) : D := .rows NDe 28 ndC L
theorem cfgZ_of {c : Nat → Int} (h : cfgW c) : cfgZ c (fun i => (c i).toNat) ∧ (c 12).toNat < 4294967296 ∧ (c 13).toNat < 4294967296 := by
  refine ⟨fun i hi => ?_, ?_, ?_⟩
  · have h0 : 0 ≤ c i := by
      have hk : confKs[i]? = some .u8 ∨ confKs[i]? = some .u32 := by
        revert hi
        revert i
        decide
      rcases hk with hk | hk
      · exact (wf_u8 (h i _ hk)).1
      · exact (wf_u32 (h i _ hk)).1
    show c i = ((c i).toNat : Int)
    omega
  · have := wf_u32 (h 12 _ rfl); omega
  · have := wf_u32 (h 13 _ rfl); omega

end Go.Proofs.Ytfepckbhnghpeaa.V
namespace Go.Proofs.Ytfepckbhnghpeaa.V
open Go.RowKit
attribute [local irreducible] Fn FnN FnR OpVC DLe ArC ArL Ob ObS NewS

def cU (i : Nat) : Int := [2, 0, 0, 0, 0, 1, 2, 0, 0, 0, 0, 2, 167772161, 167837697, 24, 24, 167772414, 1500, 1, 2, 3, 4, 7000, 13, 8, 8, 64, 8, 8, 100, 2, 3, 5, 30, 4, 10, 3, 2, 2, 2].getD i 0
def zU (i : Nat) : Nat := (cU i).toNat
theorem usual_fn : Fn Try.prog 21 [] fun d => d = .agg (cfgC cU) := by
  refine fnOf [] Try.func21 rfl (by kernel_rfl) (Nat.le_of_ble_eq_true rfl) ?_
  conv => whnf
  rfl
theorem cU_w : cfgW cU := fun i k h => by
  have hi : i < 40 := (List.getElem?_eq_some_iff.1 h).1
  have key : ∀ j, j < 40 → ∀ q, confKs[j]? = some q → (Lit.int q (cU j)).wf = true := by decide +kernel
  exact key i hi k h
def pU : Pkt := ⟨0, 0, false, false, 0, 0, 0, 0, 167837701, [], [1]⟩
theorem pU_ok : pU.ok := ⟨by decide, by decide, by decide, by decide, by decide, by decide, by decide, .nil, .cons (by decide) .nil⟩
def aU : Arp := ⟨2, [2, 7, 0, 0, 0, 0], 167837701, [0, 0, 0, 0, 0, 0], 167837697⟩
theorem sendU : sendT cU zU 0 [] pU = (([askS zU (1, 167837701)], -1), [⟨1, 167837701, false, mac0, 1, 2, [putP pU]⟩]) := by kernel_rfl
theorem heardU : heardT cU zU 0 [⟨1, 167837701, false, mac0, 1, 2, [putP pU]⟩] 1 aU = ([frameS zU 1 [2, 7, 0, 0, 0, 0] (putP pU)], [⟨1, 167837701, true, macI [2, 7, 0, 0, 0, 0], 0, 100, []⟩]) := by kernel_rfl
theorem pktU : DLe (.agg [u8D 0, u16D 0, boolD false, boolD false, u16D 0, u8D 0, u8D 0, u32D 0, u32D 167837701, .v (.slice none 0 0), .lit 1 [[u8D 1]]]) (.agg (pktD pU)) :=
  dleAgg ⟨DLe.refl _, DLe.refl _, DLe.refl _, DLe.refl _, DLe.refl _, DLe.refl _, DLe.refl _, DLe.refl _, DLe.refl _, DLe.nil _ _, dleLit (L := [1]) octE_flat, trivial⟩
set_option maxRecDepth 10000 in
set_option maxHeartbeats 4000000 in
theorem lives37_fn : Fn Try.prog 5 [] fun d => d = boolD true := by
  refine fnE_of_wpc (H0 := [(0, arE)]) (nx0 := 1) (pl := []) (fun id o h => ?_) ttH ebH mxH Try.func5 rfl (by kernel_rfl) (Nat.le_of_ble_eq_true rfl) ?_
  · by_cases h0 : id = 0
    · subst h0; rw [lget_same] at h; injection h with h; exact ⟨by decide, h.symm⟩
    · rw [lget_ne _ _ h0] at h; cases h
  have hus := usual_fn
  have hnew := snew_ar cU 0
  rw [show min (max (0 : Int) 0) 1073741824 = 0 by decide] at hnew
  conv => whnf
  (refine CallVC.pure (hus) rfl ?_; rintro _ rfl; conv => whnf)
  refine CallVC.arN (i := 0) hnew rfl rfl (fun _ => rfl) ?_
  rintro _ _ S0 ⟨cg, mg, hok0, rfl, rfl⟩
  have hst0 := stand_new _ _ _ _ hok0
  have hz := (cfgZ_of cU_w).1
  have hsend := send_ar zU (cdat0 cg mg cU 0) [] pU cU_w hz hst0 (fun x hx => absurd hx List.not_mem_nil) (fun x hx => absurd hx List.not_mem_nil) ⟨Int.le_refl _, by show (0 : Int) ≤ 2000000000; decide⟩ (by decide) pU_ok ⟨by decide, by decide⟩
  have hs : sendT (cdat0 cg mg cU 0).c zU (cdat0 cg mg cU 0).now [] pU = (([askS zU (1, 167837701)], -1), [⟨1, 167837701, false, mac0, 1, 2, [putP pU]⟩]) := sendU
  rw [hs] at hsend
  dsimp only at hsend
  conv => whnf
  refine ⟨by decide, ?_⟩
  conv => whnf
  refine CallVC.wk (fun C vs hr => reps_one (l := [netP cU cg]) (r := []) pktU hr) (CallVC.ar (i := 0) hsend rfl rfl ?_)
  rintro _ _ S1 ⟨rfl, d', rfl, f1, f2, f3, f4⟩
  have hheard := heard_ar zU d' _ 1 2 167837701 167837697 2 7 0 0 0 0 0 0 0 0 0 0 (by rw [f2]; exact cU_w) (by rw [f2]; exact hz) f4 (by rw [f3]; exact ⟨Int.le_refl _, by show (0 : Int) ≤ 2000000000; decide⟩) (by show 1 ≤ 1000; decide) (fun x hx b hb => by
    rw [List.mem_singleton.1 hx] at hb
    rw [List.mem_singleton.1 hb]
    have := putP_len (p := pU) ⟨by decide, by decide⟩
    omega) (by decide) (by decide) (by decide)
  rw [f1, f2, f3] at hheard
  have hh : heardT (cdat0 cg mg cU 0).c zU (cdat0 cg mg cU 0).now [⟨1, 167837701, false, mac0, 1, 2, [putP pU]⟩] 1 ⟨2, [2, 7, 0, 0, 0, 0], 167837701, [0, 0, 0, 0, 0, 0], 167837697⟩ = ([frameS zU 1 [2, 7, 0, 0, 0, 0] (putP pU)], [⟨1, 167837701, true, macI [2, 7, 0, 0, 0, 0], 0, 100, []⟩]) := heardU
  rw [hh] at hheard
  dsimp only at hheard
  conv => whnf
  refine CallVC.ar (i := 0) hheard rfl rfl ?_
  rintro _ _ S2 ⟨rfl, d2, rfl, k1, k2, k3, k4⟩
  conv => whnf
  refine ⟨rfl, ⟨by decide, by decide⟩, fun y hy => ?_⟩
  obtain rfl : askS zU (1, 167837701) = y := Option.some.inj hy
  conv => whnf
  refine ⟨rfl, ⟨by decide, by decide⟩, fun y hy => ?_⟩
  obtain rfl : frameS zU 1 [2, 7, 0, 0, 0, 0] (putP pU) = y := Option.some.inj hy
  conv => whnf
  refine ⟨rfl, ⟨by decide, by rw [frameS_len]; show (1 : Int) < ((6 + 8 + (putP pU).length : Nat) : Int); omega⟩, fun y hy => ?_⟩
  obtain rfl : 7 = y := Option.some.inj hy
  conv => whnf
  try rfl
end Go.Proofs.Ytfepckbhnghpeaa.V
