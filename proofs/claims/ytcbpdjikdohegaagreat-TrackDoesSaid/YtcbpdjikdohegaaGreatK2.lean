/-
  The document's wheel: who stands ahead, where one is, one set, by value. Conditions: the row not too long, the tick not too great.
  The wheel's state; in which row, at which place an alarm stands. Conditions: ticks not too great.
-/
import Derived.Test.YtcbpdjikdohegaaGreatK1
namespace Go.Proofs.YtcbpdjikdohegaaGreat.V
open Go.RowKit
attribute [local irreducible] Fn FnN OpVC Ob

structure Al where
  id : Int
  at_ : Int
deriving DecidableEq
def alD (x : Al) : List D := [intD x.id, intD x.at_]
abbrev rowsA (L : List Al) : D := .rows Al 2 alD L
def aheadA (a b : Al) : Bool := match decide (a.at_ < b.at_) with
  | true => true
  | false => match decide (a.at_ = b.at_) with
    | true => decide (a.id < b.id)
    | false => false
def isId (n : Int) (x : Al) : Bool := decide (x.id = n)

def insP (a : Al) (L : List Al) : Nat → List Al × Bool
  | 0 => ([], false)
  | k + 1 => match L[k]? with
    | some x => match (insP a L k).2 with
      | true => ((insP a L k).1 ++ [x], true)
      | false => match aheadA a x with
        | true => ((insP a L k).1 ++ [a] ++ [x], true)
        | false => ((insP a L k).1 ++ [x], false)
    | none => insP a L k
def insF (a : Al) (L : List Al) : List Al := match (insP a L L.length).2 with
  | true => (insP a L L.length).1
  | false => (insP a L L.length).1 ++ [a]
def setQ (now : Int) (L : List Al) (a : Al) : Bool := match decide (a.at_ ≤ now) with
  | true => false
  | false => match decide (now + 4095 < a.at_) with
    | true => false
    | false => match decide (0 ≤ findI (isId a.id) L) with
      | true => false
      | false => true
def setL (now : Int) (L : List Al) (a : Al) : List Al := match setQ now L a with
  | true => insF a L
  | false => L

end Go.Proofs.YtcbpdjikdohegaaGreat.V
namespace Go.Proofs.YtcbpdjikdohegaaGreat.V
open Go.RowKit
attribute [local irreducible] Fn FnN OpVC Ob

theorem toIn {f : FuncId} {fn : Func} {c : Code} {args : List D} {s : St} {K : D → St → Prop} (m : Nat) (pl : Plans) (hfn : Tryz.prog.funcs[f]? = some fn) (hc : fn.body = some c) (hok : codeOk pl fn.ntmps c = true) (hn : args.length ≤ fn.ntmps) (h0 : 0 < fn.ntmps)
    (hG : Nat.ble s.G.2 m = true) (hmx : Nat.ble m s.nx = true) (hF : s.F.all (fun p => cutOk 6 m p.2) = true)
    (h : wpc Tryz.prog tt pl c ⟨enumD args 0, s.H, s.nx, (upto m 0, m)⟩ fun e s' => endK e (resK tt s' fn.results.toList fun l => seeD (oneD l) fun d => ∃ r z d' H' n', Cover r z ⟨(0, d) :: s'.F, s'.H, s'.nx, s'.G⟩ ⟨[(0, d')], H', n', (upto m 0, m)⟩ ∧ K d' ⟨s.F, H', n', s.G⟩)) : CallVC Tryz.prog false f args s K :=
  CallVC.to ttH ebH mxH hfn hc hok hn h0 hG hmx hF h

def upd (R : Nat → List Al) (k : Nat) (l : List Al) : Nat → List Al := fun j => match Nat.beq j k with
  | true => l
  | false => R j
def wheelD (now : Int) : List D := [intD now, .grow 5, .grow 6, .grow 7, .grow 8, .grow 9, .grow 10, .grow 11, .grow 12, .grow 13, .grow 14, .grow 15, .grow 16, .grow 17, .grow 18, .grow 19, .grow 20, .grow 21, .grow 22, .grow 23, .grow 24, .grow 25, .grow 26, .grow 27, .grow 28, .grow 29, .grow 30, .grow 31, .grow 32, .grow 33, .grow 34, .grow 35, .grow 36, .grow 37, .grow 38, .grow 39, .grow 40, .grow 41, .grow 42, .grow 43, .grow 44, .grow 45, .grow 46, .grow 47, .grow 48, .grow 49, .grow 50, .grow 51, .grow 52, .mapr 1]
def WH (now : Int) (R : Nat → List Al) (T U : List Al) (M : List ME) (c : Nat) (o2 : LO) : List (Nat × LO) :=
  [(0, .cells 87 (wheelD now)), (1, .obj (imap M c)), (2, o2), (3, .grow Al 73 2 alD U), (4, .grow Al 73 2 alD T), (5, .grow Al 73 2 alD (R 0)), (6, .grow Al 73 2 alD (R 1)), (7, .grow Al 73 2 alD (R 2)), (8, .grow Al 73 2 alD (R 3)), (9, .grow Al 73 2 alD (R 4)), (10, .grow Al 73 2 alD (R 5)), (11, .grow Al 73 2 alD (R 6)), (12, .grow Al 73 2 alD (R 7)), (13, .grow Al 73 2 alD (R 8)), (14, .grow Al 73 2 alD (R 9)), (15, .grow Al 73 2 alD (R 10)), (16, .grow Al 73 2 alD (R 11)), (17, .grow Al 73 2 alD (R 12)), (18, .grow Al 73 2 alD (R 13)), (19, .grow Al 73 2 alD (R 14)), (20, .grow Al 73 2 alD (R 15)), (21, .grow Al 73 2 alD (R 16)), (22, .grow Al 73 2 alD (R 17)), (23, .grow Al 73 2 alD (R 18)), (24, .grow Al 73 2 alD (R 19)), (25, .grow Al 73 2 alD (R 20)), (26, .grow Al 73 2 alD (R 21)), (27, .grow Al 73 2 alD (R 22)), (28, .grow Al 73 2 alD (R 23)), (29, .grow Al 73 2 alD (R 24)), (30, .grow Al 73 2 alD (R 25)), (31, .grow Al 73 2 alD (R 26)), (32, .grow Al 73 2 alD (R 27)), (33, .grow Al 73 2 alD (R 28)), (34, .grow Al 73 2 alD (R 29)), (35, .grow Al 73 2 alD (R 30)), (36, .grow Al 73 2 alD (R 31)), (37, .grow Al 73 2 alD (R 32)), (38, .grow Al 73 2 alD (R 33)), (39, .grow Al 73 2 alD (R 34)), (40, .grow Al 73 2 alD (R 35)), (41, .grow Al 73 2 alD (R 36)), (42, .grow Al 73 2 alD (R 37)), (43, .grow Al 73 2 alD (R 38)), (44, .grow Al 73 2 alD (R 39)), (45, .grow Al 73 2 alD (R 40)), (46, .grow Al 73 2 alD (R 41)), (47, .grow Al 73 2 alD (R 42)), (48, .grow Al 73 2 alD (R 43)), (49, .grow Al 73 2 alD (R 44)), (50, .grow Al 73 2 alD (R 45)), (51, .grow Al 73 2 alD (R 46)), (52, .grow Al 73 2 alD (R 47))]
def plr (now t : Int) : Int := match decide (t - now < 16) with
  | true => 0
  | false => match decide (t - now < 256) with
    | true => 1
    | false => 2
def plp (now t : Int) : Int := match decide (t - now < 16) with
  | true => t.tmod 16
  | false => match decide (t - now < 256) with
    | true => (t.tdiv 16).tmod 16
    | false => (t.tdiv 256).tmod 16
def plc (now t : Int) : Nat := (plr now t * 16 + plp now t).toNat
theorem plr_in (now t : Int) : plr now t = 0 ∨ plr now t = 1 ∨ plr now t = 2 := by
  unfold plr; split
  · exact .inl rfl
  · split
    · exact .inr (.inl rfl)
    · exact .inr (.inr rfl)
theorem plp_in (now t : Int) (ht : 0 ≤ t) : 0 ≤ plp now t ∧ plp now t < 16 := by
  unfold plp; split
  · exact ⟨Int.tmod_nonneg _ ht, Int.tmod_lt_of_pos _ (by omega)⟩
  · split
    · exact ⟨Int.tmod_nonneg _ (Int.tdiv_nonneg ht (by omega)), Int.tmod_lt_of_pos _ (by omega)⟩
    · exact ⟨Int.tmod_nonneg _ (Int.tdiv_nonneg ht (by omega)), Int.tmod_lt_of_pos _ (by omega)⟩

theorem place_rd (now t : Int) (X : List D) (hn : 0 ≤ now ∧ now ≤ 1099511627776) (ht : 0 ≤ t ∧ t ≤ 1099511627776) : FnN Tryz.prog 82 [.fp (intD now :: X), intD t] fun d => d = .tup [intD (plr now t), intD (plp now t)] := by
  refine fnNOf [] Tryz.func82 rfl (by kernel_rfl) (Nat.le_of_ble_eq_true rfl) ?_
  have e1 : IntKind.i64.wrap (t - now) = t - now := IntWalk.i64_in _ (by omega)
  have e2 : IntKind.i64.wrap (t.tdiv 16) = t.tdiv 16 := IntWalk.i64_in _ (by rw [Int.tdiv_eq_ediv_of_nonneg ht.1]; omega)
  have e3 : IntKind.i64.wrap (t.tdiv 256) = t.tdiv 256 := IntWalk.i64_in _ (by rw [Int.tdiv_eq_ediv_of_nonneg ht.1]; omega)
  unfold plr plp
  conv => whnf
  rw [e1]
  refine Fork.intro (fun h1 => ?_) (fun h1 => ?_)
  · rw [show decide (t - now < 16) = true from h1]
    conv => whnf
    refine ⟨by decide, ?_⟩
    conv => whnf
    exact ⟨rfl, rfl⟩
  · rw [show decide (t - now < 16) = false from h1]
    conv => whnf
    refine Fork.intro (fun h2 => ?_) (fun h2 => ?_)
    · rw [show decide (t - now < 256) = true from h2]
      conv => whnf
      refine ⟨by decide, ?_⟩
      conv => whnf
      refine ⟨by decide, ?_⟩
      conv => whnf
      rw [e2]
      exact ⟨rfl, rfl⟩
    · rw [show decide (t - now < 256) = false from h2]
      conv => whnf
      refine ⟨by decide, ?_⟩
      conv => whnf
      refine ⟨by decide, ?_⟩
      conv => whnf
      rw [e3]
      exact ⟨rfl, rfl⟩
end Go.Proofs.YtcbpdjikdohegaaGreat.V
