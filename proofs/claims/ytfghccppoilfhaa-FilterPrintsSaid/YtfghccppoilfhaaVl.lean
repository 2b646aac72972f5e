/-
  Functions by value: from a weakest precondition of the body to a contract; calls by contract, and calls gone into. Conditions: the table of types says what the program's says; functions are entered; plans are ones.
-/
import Derived.Test.YtfghccppoilfhaaVk
namespace Go.Proofs.Ytfghccppoilfhaa.V
open Go.RowKit

/-! ### Results -/
def resK (tt : TT) (s : St) : List ResultVar → (List D → Prop) → Prop
  | [], K => K []
  | .tmp i :: r, K => resK tt s r fun l => seeD (slotD s i) fun d => K (d :: l)
  | .cell b ty :: r, K => loadD tt s ty (slotD s b) fun d => resK tt s r fun l => seeD d fun d => K (d :: l)
def oneD : List D → D
  | [d] => d
  | l => .tup l
def oneV : List Value → Value
  | [v] => v
  | l => .tuple l.toArray
def endK (e : VExit) (X : Prop) : Prop := match e with
  | .normal => X
  | .ret => X
  | .exit _ => False
def enumD : List D → Nat → List (Nat × D)
  | [], _ => []
  | d :: r, i => (i, d) :: enumD r (i + 1)

def resAt (tmps : Array Value) : ResultVar → Sem Value
  | .tmp t => Pure.pure (tmps.getD t undef)
  | .cell b ty => do Go.loadVar ty (← asAddr (tmps.getD b undef))

def baseCtx (w : World) (B : Nat → Prop) : Ctx := ⟨w, B, fun _ _ _ => False, fun _ _ => False, fun _ _ _ => False⟩

def snapD : Nat → List (Nat × LO) → D → D
  | 0, _, _ => .junk
  | k + 1, H, d => match d with
    | .v v => .v v
    | .agg l => .agg (l.map (snapD k H))
    | .tup l => .tup (l.map (snapD k H))
    | .rows α e enc L => .rows α e enc L
    | .lit e L => .lit e (L.map fun l => l.map (snapD k H))
    | .emp => .emp
    | .fp l => .fp (l.map (snapD k H))
    | .loc id off => match lget H id with
      | some (.cells _ l) => .fp ((dropD off l).map (snapD k H))
      | some (.obj (.sep _ A)) => match off with
        | 0 => .sp A
        | _ + 1 => .junk
      | _ => .junk
    | .grow id => match lget H id with
      | some (.grow α _ e enc L) => .rows α e enc L
      | _ => .junk
    | .op _ _ _ _ => .junk
    | .win id e lo n => match lget H id with
      | some (.grow α _ k enc L) => match Nat.beq k e, Nat.ble (lo + n) L.length with
        | true, true => .rows α k enc ((L.drop lo).take n)
        | _, _ => .junk
      | _ => .junk
    | .cap _ _ _ => .junk
    | .asl id off n => match lget H id with
      | some (.cells _ l) => match takeD n (dropD off l) with
        | some r => .lit 1 (r.map fun d => [snapD k H d])
        | none => .junk
      | _ => .junk
    | .cut id n => match lget H id with
      | some (.grow α _ e enc L) => match Nat.ble n L.length with
        | true => .rows α e enc (L.take n)
        | false => .junk
      | _ => .junk
    | .fn f a b => .fn f (a.map (snapD k H)) (b.map (snapD k H))
    | .iface t d => .iface t (snapD k H d)
    | .mapr _ => .junk
    | .sp A => .sp A
    | .junk => .junk

section
variable {P : Program} {tt : TT} {pl : Plans} {E : Env} {s : St} {σ : Nat → Nat} {τ : Nat → Value} {a : Act} {w : World}

theorem oneD_rep {C : Ctx} {l : List D} {c : List Value} (h : reps C l c) : Rep C (oneD l) (oneV c) := by
  have ht : Rep C (.tup l) (.tuple c.toArray) := .tup (by simp [h.1]) fun j d u a b => h.2 j d u a (by simpa using b)
  match l, c, h with
  | [], [], _ => exact ht
  | [d], [v], h => exact h.2 0 d v rfl rfl
  | _ :: _ :: _, _ :: _ :: _, _ => exact ht
  | [], _ :: _, h => have := h.1; simp at this
  | [_], [], h => have := h.1; simp at this
  | [_], _ :: _ :: _, h => have := h.1; simp at this
  | _ :: _ :: _, [], h => have := h.1; simp at this
  | _ :: _ :: _, [_], h => have := h.1; simp at this

theorem load_ptr {C : Ctx} {t : TypeId} {u r : Value} {w : World} (h : (Instr.loadAt t u).run P w = .ok r w) : ∃ p, u = .pointer (some p) ∧ (loadVar t p).run P w = .ok r w := by
  cases u with
  | pointer p =>
    cases p with
    | some p => exact ⟨p, rfl, by simpa [Instr.loadAt, Instr.sureAddr] using h⟩
    | none => simp [Instr.loadAt, Instr.sureAddr, stuck] at h
  | _ => simp [Instr.loadAt, Instr.sureAddr, stuck] at h

theorem resK_run (htt : ttOk P tt) (hs : SR E s σ τ a w) : ∀ (rs : List ResultVar) (K : List D → Prop), resK tt s rs K → ∃ l vs, K l ∧ reps (ctxOf E s.H s.nx σ τ w) l vs ∧ Sem.run P (rs.mapM (resAt a.tmps)) w = .ok vs w := by
  intro rs
  induction rs with
  | nil => intro K h; exact ⟨[], [], h, reps_nil, by simp⟩
  | cons r rs ih =>
    intro K h
    cases r with
    | tmp i =>
      obtain ⟨l, vs, h1, h2, h3⟩ := ih _ h
      rw [seeD_eq] at h1
      exact ⟨_, _, h1, reps_cons (hs.slot i) h2, by simp [List.mapM_cons, resAt, h3]⟩
    | cell b ty =>
      obtain ⟨d, v, h1, h2, h3⟩ := loadD_run htt hs h (hs.slot b)
      obtain ⟨l, vs, h4, h5, h6⟩ := ih _ h1
      rw [seeD_eq] at h4
      obtain ⟨p, h7, h8⟩ := load_ptr (C := ctxOf E s.H s.nx σ τ w) (h3 w (Same.refl w))
      exact ⟨_, _, h4, reps_cons h2 h5, by simp [List.mapM_cons, resAt, h7, asAddr, h8, h6]⟩

theorem results_at {fn : Func} {tmps : Array Value} {vs : List Value} {w : World} (h : Sem.run P (fn.results.toList.mapM (resAt tmps)) w = .ok vs w) : (results fn tmps).run P w = .ok (oneV vs) w := by
  have e : results fn tmps = (do
      let vs ← fn.results.mapM (resAt tmps)
      Pure.pure (if h : vs.size = 1 then vs[0] else .tuple vs)) := by
    unfold results
    congr 1
  rw [e, Array.mapM_eq_mapM_toList]
  simp only [Sem.run_bind, Sem.run_map, h, Result.andThen_ok, Sem.run_pure]
  congr 1
  match vs with
  | [] => rfl
  | [x] => rfl
  | x :: y :: r => simp [oneV]

/-! ### Contracts by value -/
def Fn (P : Program) (f : FuncId) (args : List D) (Q : D → Prop) : Prop :=
  hasBody P f ∧ ∀ (w : World) (B : Nat → Prop) (args' : List Value), (∀ b, B b → b < w.heap.size) → reps (baseCtx w B) args args' →
    Calls P f args'.toArray w fun e w' => ∃ d v, Q d ∧ e = .returned v ∧ Under w.heap.size w w' ∧ Rep (baseCtx w' fun b => B b ∨ (w.heap.size ≤ b ∧ b < w'.heap.size)) d v

theorem Fn.mono {f : FuncId} {args : List D} {Q Q' : D → Prop} (h : Fn P f args Q) (hq : ∀ d, Q d → Q' d) : Fn P f args Q' :=
  ⟨h.1, fun w B args' hB hr => (h.2 w B args' hB hr).mono fun _ _ ⟨d, v, h1, h2⟩ => ⟨d, v, hq d h1, h2⟩⟩

theorem snap_rep (hs : HR E s.H s.nx σ τ w) : ∀ (k : Nat) (d : D) (v : Value), Rep (ctxOf E s.H s.nx σ τ w) d v → Rep (baseCtx w fun b => ((E.B b ∨ E.K b) ∨ E.w.heap.size ≤ b) ∧ b < w.heap.size) (snapD k s.H d) v := by
  have hle : (ctxOf E s.H s.nx σ τ w).still.Le (baseCtx w fun b => ((E.B b ∨ E.K b) ∨ E.w.heap.size ≤ b) ∧ b < w.heap.size) :=
    ⟨fun _ _ _ h => h, fun b hb => ⟨or_assoc.2 hb.1, hb.2.1⟩, fun _ _ _ h => h, fun _ _ h => h, fun _ _ _ h => h⟩
  intro k
  induction k with
  | zero => intro d v _; exact .junk
  | succ k ih =>
    intro d v h
    have mapped : ∀ (l : List D) (c : Array Value), (∀ (j : Nat) d u, l[j]? = some d → c[j]? = some u → Rep (ctxOf E s.H s.nx σ τ w) d u) →
        ∀ (j : Nat) d u, (l.map (snapD k s.H))[j]? = some d → c[j]? = some u → Rep (baseCtx w fun b => ((E.B b ∨ E.K b) ∨ E.w.heap.size ≤ b) ∧ b < w.heap.size) d u := by
      intro l c hh j d u hd hu
      rw [List.getElem?_map] at hd
      cases hq : l[j]? with
      | none => rw [hq] at hd; cases hd
      | some x =>
        rw [hq] at hd
        simp only [Option.map_some, Option.some.injEq] at hd
        subst hd
        exact ih x u (hh j x u hq hu)
    cases h with
    | v => exact .v
    | agg h1 h2 => exact .agg (by simpa using h1) (mapped _ _ h2)
    | tup h1 h2 => exact .tup (by simpa using h1) (mapped _ _ h2)
    | rows b o g hc hp hl hcell hrep => exact (Rep.rows (C := (ctxOf E s.H s.nx σ τ w).still) b o g hc hp hl hcell hrep).mono hle
    | lit b o g hc hp hl hcell hrep =>
      rename_i e L p c
      have hlen : (L.map fun l => l.map (snapD k s.H)).length = L.length := by simp
      simp only [snapD]
      rw [← hlen]
      refine .lit b o g (by rw [hlen]; exact hc) (fun hn => ?_) (fun i x hx => ?_) (fun i x j d hx hd => ?_) (fun i x j d hx hd => ?_)
      · obtain ⟨h1, h2⟩ := hp (fun he => hn (by rw [he]; rfl))
        exact ⟨h1, hle.ok b h2⟩
      all_goals
        rw [List.getElem?_map] at hx
        cases hq : L[i]? with
        | none => rw [hq] at hx; cases hx
        | some y =>
          rw [hq] at hx
          simp only [Option.map_some, Option.some.injEq] at hx
          subst hx
          first
            | (rw [List.length_map]; exact hl i y hq)
            | (rw [List.getElem?_map] at hd
               cases hq2 : y[j]? with
               | none => rw [hq2] at hd; cases hd
               | some z =>
                 rw [hq2] at hd
                 simp only [Option.map_some, Option.some.injEq] at hd
                 subst hd
                 first
                   | exact hcell i y j z hq hq2
                   | exact ih z _ (hrep i y j z hq hq2))
    | emp => exact .emp
    | fp g hk hcell hrep =>
      refine .fp g (hle.ok _ hk) (fun j d hd => ?_) (fun j d hd => ?_)
      all_goals
        rw [List.getElem?_map] at hd
        rename_i l b o
        cases hq : l[j]? with
        | none => rw [hq] at hd; cases hd
        | some z =>
          rw [hq] at hd
          simp only [Option.map_some, Option.some.injEq] at hd
          subst hd
          first
            | exact hcell j z hq
            | exact ih z _ (hrep j z hq)
    | loc hl =>
      rename_i id off
      obtain ⟨hid, rfl⟩ := hl
      simp only [snapD]
      split
      · rename_i el l hl
        obtain ⟨hm, c, h1, h2, h3⟩ := hs.cells id el l hl
        have hlt : σ id < w.heap.size := (Array.getElem?_eq_some_iff.1 h1).1
        refine .fp (fun j => (c[off + j]?).getD undef) ⟨hm.elim (fun h => .inl (.inr h)) .inr, hlt⟩ (fun j d hd => ?_) (fun j d hd => ?_)
        all_goals
          rw [List.getElem?_map, dropD_eq, List.getElem?_drop] at hd
          cases hq : l[off + j]? with
          | none => rw [hq] at hd; cases hd
          | some z =>
            rw [hq] at hd
            simp only [Option.map_some, Option.some.injEq] at hd
            subst hd
            have hj : off + j < c.size := by have := (List.getElem?_eq_some_iff.1 hq).1; omega
            simp only [Array.getElem?_eq_getElem hj, Option.getD_some]
            first
              | (show w.cell? _ = _
                 simp [World.cell?, h1, Array.getElem?_eq_getElem hj])
              | exact ih z _ (h3 _ z _ hq (Array.getElem?_eq_getElem hj))
      · rename_i S A hl
        split
        · obtain ⟨h1, h2⟩ := hs.obj id _ hl
          exact .sp S (SepA.mono _ h2 (fun _ _ _ h => h) hle) fun k hk => ⟨(h1 k hk).1.elim (fun h => .inl (.inr h)) .inr, (h1 k hk).2⟩
        · exact .junk
      · exact .junk
    | grow hl =>
      rename_i id
      obtain ⟨hid, rfl⟩ := hl
      simp only [snapD]
      split
      · rename_i α el e enc L hl
        obtain ⟨hm, xs, ⟨hxl, hown⟩, hlen, hrep⟩ := hs.grow id _ _ _ _ _ hl
        rcases hown with ⟨hv, hn⟩ | ⟨g, cap, cur, hv, _, hg, hcap, _, hcs, htk⟩
        · have hL : L = [] := List.eq_nil_of_length_eq_zero hn
          subst hL
          rw [hv]
          exact .rows (L := []) 0 0 (fun _ _ => .nilIface) (Nat.le_refl _) (fun h => absurd rfl h) (fun i x h => by simp at h) (fun i x j d h => by simp at h) (fun i x j d h => by simp at h)
        · rw [hv]
          have hmg := hm g (by rw [hv]; rfl)
          have hin : ∀ (i : Nat) x (j : Nat) d, L[i]? = some x → (enc x)[j]? = some d → ∃ u, xs[i * e + j]? = some u ∧ cur[i * e + j]? = some u := by
            intro i x j d hx hd
            have hi : i < L.length := (List.getElem?_eq_some_iff.1 hx).1
            have hj : j < e := by have := (List.getElem?_eq_some_iff.1 hd).1; rw [hlen i x hx] at this; exact this
            have hb : i * e + e ≤ L.length * e := by
              have := Nat.mul_le_mul_right e (show i + 1 ≤ L.length from hi)
              rw [Nat.succ_mul] at this; exact this
            have h5 : i * e + j < xs.length := by rw [hxl]; omega
            obtain ⟨u, h6⟩ : ∃ u, xs[i * e + j]? = some u := ⟨_, List.getElem?_eq_getElem h5⟩
            refine ⟨u, h6, ?_⟩
            rw [← htk, List.getElem?_take_of_lt (by omega)] at h6
            simpa using h6
          refine .rows g 0 (fun i j => (xs[i * e + j]?).getD undef) hcap (fun _ => ⟨rfl, hmg.elim (fun h => .inl (.inr h)) .inr, (Array.getElem?_eq_some_iff.1 hg).1⟩) hlen (fun i x j d hx hd => ?_) (fun i x j d hx hd => ?_)
          · obtain ⟨u, h5, h6⟩ := hin i x j d hx hd
            rw [h5, Nat.zero_add]
            show w.cell? _ = _
            simp [World.cell?, hg, h6]
          · obtain ⟨u, h5, h6⟩ := hin i x j d hx hd
            rw [h5]
            exact (hrep i x j d u hx hd h5).mono hle.still
      · exact .junk
    | op hl => exact .junk
    | win hl hc =>
      rename_i id e lo n c p
      simp only [snapD]
      split
      · rename_i α el k enc L hl2
        split
        · rename_i hk hlen
          have hk := Nat.eq_of_beq_eq_true hk
          subst hk
          have hlen : lo + n ≤ L.length := Nat.le_of_ble_eq_true hlen
          have hL : ((L.drop lo).take n).length = n := by simp; omega
          have hget : ∀ (i : Nat) x, ((L.drop lo).take n)[i]? = some x → i < n ∧ L[lo + i]? = some x := by
            intro i x hx
            have hi := (List.getElem?_eq_some_iff.1 hx).1
            rw [List.getElem?_take_of_lt (by omega), List.getElem?_drop] at hx
            exact ⟨by omega, hx⟩
          obtain ⟨hm, xs, ⟨hxl, hown⟩, hlen0, hrep⟩ := hs.grow id _ _ _ _ _ hl2
          rcases hown with ⟨hv, hn⟩ | ⟨g, cap, cur, hv, _, hg, hcap, _, hcs, htk⟩
          · have hn0 : n = 0 := by omega
            subst hn0
            exact .rows (L := []) 0 0 (fun _ _ => .nilIface) (Nat.zero_le _) (fun h => absurd rfl h) (fun i x h => by simp at h) (fun i x j d h => by simp at h) (fun i x j d h => by simp at h)
          · have hmg := hm g (by rw [hv]; rfl)
            have hin : ∀ (i : Nat) x (j : Nat) d, L[i]? = some x → (enc x)[j]? = some d → ∃ u, xs[i * k + j]? = some u ∧ cur[i * k + j]? = some u := by
              intro i x j d hx hd
              have hi : i < L.length := (List.getElem?_eq_some_iff.1 hx).1
              have hj : j < k := by have := (List.getElem?_eq_some_iff.1 hd).1; rw [hlen0 i x hx] at this; exact this
              have hb : i * k + k ≤ L.length * k := by
                have := Nat.mul_le_mul_right k (show i + 1 ≤ L.length from hi)
                rw [Nat.succ_mul] at this; exact this
              have h5 : i * k + j < xs.length := by rw [hxl]; omega
              obtain ⟨u, h6⟩ : ∃ u, xs[i * k + j]? = some u := ⟨_, List.getElem?_eq_getElem h5⟩
              refine ⟨u, h6, ?_⟩
              rw [← htk, List.getElem?_take_of_lt (by omega)] at h6
              simpa using h6
            have hr := Rep.rows (C := baseCtx w fun b => ((E.B b ∨ E.K b) ∨ E.w.heap.size ≤ b) ∧ b < w.heap.size) (α := α) (e := k) (enc := enc) (L := (L.drop lo).take n) (p := p) (c := c) g (lo * k) (fun i j => (xs[(lo + i) * k + j]?).getD undef) (by rw [hL]; exact hc) (fun hne => ?_) (fun i x hx => hlen0 _ x (hget i x hx).2) (fun i x j d hx hd => ?_) (fun i x j d hx hd => ?_)
            · rw [hL] at hr; exact hr
            · have hpos : 0 < n := by
                rcases Nat.eq_zero_or_pos n with h0 | h0
                · subst h0; exact absurd (by simp) hne
                · exact h0
              obtain ⟨_, hp⟩ := hl hpos
              injection hp with hp
              rw [hp, hv]
              exact ⟨rfl, hmg.elim (fun h => .inl (.inr h)) .inr, (Array.getElem?_eq_some_iff.1 hg).1⟩
            · obtain ⟨u, h5, h6⟩ := hin _ x j d (hget i x hx).2 hd
              rw [h5]
              show w.cell? _ = _
              rw [Nat.add_mul] at h6
              simp [World.cell?, hg, h6]
            · obtain ⟨u, h5, h6⟩ := hin _ x j d (hget i x hx).2 hd
              rw [h5]
              exact (hrep _ x j d u (hget i x hx).2 hd h5).mono hle
        · exact .junk
      · exact .junk
    | cap hg hn0 => exact .junk
    | asl hl =>
      rename_i id off n p
      obtain ⟨hid, hp⟩ := hl
      injection hp with hp
      subst hp
      simp only [snapD]
      split
      · rename_i el l hl
        split
        · rename_i r hr
          obtain ⟨hm, c, h1, h2, h3⟩ := hs.cells id el l hl
          have hlt : σ id < w.heap.size := (Array.getElem?_eq_some_iff.1 h1).1
          rw [dropD_eq] at hr
          obtain ⟨hr2, hr1⟩ := takeD_spec _ _ _ hr
          have hget : ∀ (i : Nat) (x : List D), (r.map fun d => [snapD k s.H d])[i]? = some x → ∃ z, l[off + i]? = some z ∧ x = [snapD k s.H z] := by
            intro i x hx
            rw [List.getElem?_map] at hx
            cases hq : r[i]? with
            | none => rw [hq] at hx; cases hx
            | some z =>
              rw [hq] at hx
              simp only [Option.map_some, Option.some.injEq] at hx
              refine ⟨z, ?_, hx.symm⟩
              have hin := (List.getElem?_eq_some_iff.1 hq).1
              rw [hr2, List.length_take] at hin
              rw [hr2, List.getElem?_take_of_lt (by omega), List.getElem?_drop] at hq
              exact hq
          have hlen : (r.map fun d => [snapD k s.H d]).length = n := by rw [List.length_map, hr2, List.length_take]; omega
          conv => rhs; rw [← hlen]
          refine .lit (σ id) off (fun i _ => (c[off + i]?).getD undef) rfl (fun _ => ⟨rfl, hm.elim (fun h => .inl (.inr h)) .inr, hlt⟩) (fun i x hx => ?_) (fun i x j d hx hd => ?_) (fun i x j d hx hd => ?_)
          all_goals
            obtain ⟨z, hz, rfl⟩ := hget i x hx
          · rfl
          all_goals
            have hj : off + i < c.size := by have := (List.getElem?_eq_some_iff.1 hz).1; omega
            cases j with
            | succ j => simp at hd
            | zero =>
              simp only [List.getElem?_cons_zero, Option.some.injEq] at hd
              subst hd
              simp only [Array.getElem?_eq_getElem hj, Option.getD_some]
              first
                | (show w.cell? ⟨σ id, off + i * 1 + 0, none⟩ = _
                   simp [World.cell?, h1, Array.getElem?_eq_getElem hj])
                | exact ih z _ (h3 _ z _ hz (Array.getElem?_eq_getElem hj))
        · exact .junk
      · exact .junk
    | cut hg hn0 =>
      rename_i id n m0 c p
      obtain ⟨hid, hg⟩ := hg
      simp only [snapD]
      split
      · rename_i α el e enc L hl
        split
        · rename_i hble
          have hnL : n ≤ L.length := Nat.le_of_ble_eq_true hble
          have hLn : (L.take n).length = n := by rw [List.length_take]; omega
          obtain ⟨hm, xs, ⟨hxl, hown⟩, hlen, hrep⟩ := hs.grow id _ _ _ _ _ hl
          rcases hown with ⟨hv, hn⟩ | ⟨g, cap, cur, hv, _, hgg, hcap, _, hcs, htk⟩
          · rw [hv] at hg
            injection hg with e1 e2 e3
            subst e1 e2 e3
            have : n = 0 := by omega
            subst this
            exact .rows (L := []) 0 0 (fun _ _ => .nilIface) (Nat.le_refl _) (fun h => absurd rfl h) (fun i x h => by simp at h) (fun i x j d h => by simp at h) (fun i x j d h => by simp at h)
          · have hmg := hm g (by rw [hv]; rfl)
            rw [hv] at hg
            injection hg with e1 e2 e3
            subst e1 e2 e3
            have hin : ∀ (i : Nat) x (j : Nat) d, L[i]? = some x → (enc x)[j]? = some d → ∃ u, xs[i * e + j]? = some u ∧ cur[i * e + j]? = some u := by
              intro i x j d hx hd
              have hi : i < L.length := (List.getElem?_eq_some_iff.1 hx).1
              have hj : j < e := by have := (List.getElem?_eq_some_iff.1 hd).1; rw [hlen i x hx] at this; exact this
              have hb : i * e + e ≤ L.length * e := by
                have := Nat.mul_le_mul_right e (show i + 1 ≤ L.length from hi)
                rw [Nat.succ_mul] at this; exact this
              have h5 : i * e + j < xs.length := by rw [hxl]; omega
              obtain ⟨u, h6⟩ : ∃ u, xs[i * e + j]? = some u := ⟨_, List.getElem?_eq_getElem h5⟩
              refine ⟨u, h6, ?_⟩
              rw [← htk, List.getElem?_take_of_lt (by omega)] at h6
              simpa using h6
            have hget : ∀ (i : Nat) x, (L.take n)[i]? = some x → L[i]? = some x := by
              intro i x hx
              have hi := (List.getElem?_eq_some_iff.1 hx).1
              rw [List.getElem?_take_of_lt (by omega)] at hx
              exact hx
            have hr := Rep.rows (C := baseCtx w fun b => ((E.B b ∨ E.K b) ∨ E.w.heap.size ≤ b) ∧ b < w.heap.size) (α := α) (e := e) (enc := enc) (L := L.take n) (p := some ⟨g, 0, none⟩) (c := c) g 0 (fun i j => (xs[i * e + j]?).getD undef) (by rw [hLn]; omega) (fun _ => ⟨rfl, hmg.elim (fun h => .inl (.inr h)) .inr, (Array.getElem?_eq_some_iff.1 hgg).1⟩) (fun i x hx => hlen i x (hget i x hx)) (fun i x j d hx hd => ?_) (fun i x j d hx hd => ?_)
            · rw [hLn] at hr; exact hr
            · obtain ⟨u, h5, h6⟩ := hin i x j d (hget i x hx) hd
              rw [h5, Nat.zero_add]
              show w.cell? _ = _
              simp [World.cell?, hgg, h6]
            · obtain ⟨u, h5, h6⟩ := hin i x j d (hget i x hx) hd
              rw [h5]
              exact (hrep i x j d u (hget i x hx) hd h5).mono hle
        · exact .junk
      · exact .junk
    | fn h1 h2 h3 h4 => exact .fn (by simpa using h1) (by simpa using h2) (mapped _ _ h3) (mapped _ _ h4)
    | iface h1 => exact .iface (ih _ _ h1)
    | mapr _ => exact .junk
    | sp S hA hS => exact .sp S (SepA.mono _ hA (fun _ _ _ h => h) hle) fun k hk => hle.ok k (hS k hk)
    | junk => exact .junk

theorem enumD_get : ∀ (l : List D) (i j : Nat) (d : D), lget (enumD l i) j = some d → i ≤ j ∧ l[j - i]? = some d
  | [], _, _, _, h => by cases h
  | x :: r, i, j, d, h => by
    simp only [enumD] at h
    by_cases hj : j = i
    · subst hj
      rw [lget_same] at h
      injection h with h; subst h
      exact ⟨Nat.le_refl _, by simp⟩
    · rw [lget_ne _ _ hj] at h
      obtain ⟨h1, h2⟩ := enumD_get r (i + 1) j d h
      refine ⟨by omega, ?_⟩
      rw [show j - i = (j - (i + 1)) + 1 by omega, List.getElem?_cons_succ]
      exact h2

theorem enter_slots {C : Ctx} {args : List D} {args' : List Value} (hr : reps C args args') (n : Nat) : ∀ i d, lget (enumD args 0) i = some d → Rep C d ((args'.toArray ++ Array.replicate (n - args'.toArray.size) undef).getD i undef) := by
  intro i d h
  obtain ⟨_, h2⟩ := enumD_get _ _ _ _ h
  rw [Nat.sub_zero] at h2
  obtain ⟨u, h3, h4⟩ := reps_get hr h2
  have hi : i < args'.length := (List.getElem?_eq_some_iff.1 h3).1
  have : (args'.toArray ++ Array.replicate (n - args'.toArray.size) undef).getD i undef = u := by
    rw [Array.getD_eq_getD_getElem?, Array.getElem?_append_left (by simpa using hi)]
    simp [h3]
  rw [this]; exact h4

theorem fn_of_wpc (htt : ttOk P tt) (hb : entersAll P = true) (hm : P.follows .mixedOrders = true) {f : FuncId} {fn : Func} {c : Code} (hfn : P.funcs[f]? = some fn) (hc : fn.body = some c) (hok : codeOk pl fn.ntmps c = true) {args : List D} {Q : D → Prop}
    (hn : args.length ≤ fn.ntmps) (h : wpc P tt pl c ⟨enumD args 0, [], 0, ([], 0)⟩ fun e s => endK e (resK tt s fn.results.toList fun l => seeD (snapD 6 s.H (oneD l)) Q)) : Fn P f args Q := by
  refine ⟨⟨fn, hfn, by rw [hc]; rfl⟩, fun w B args' hB hr => ?_⟩
  have hr0 := hr
  let E : Env := ⟨w, B, fun _ => False, fn.ntmps, fun _ _ _ => False⟩
  have hle : (baseCtx w B).Le (ctxOf E [] 0 (fun _ => 0) (fun _ => .slice none 0 0) w) :=
    ⟨fun _ _ _ h => h, (fun b hb => ⟨.inl hb, hB b hb, fun id ho => by rcases ho with ⟨_, _, h, _⟩ | ⟨_, _, _, _, _, h, _⟩ | ⟨_, h, _⟩ <;> cases h⟩), fun _ _ _ h => h.elim, fun _ _ h => h.elim, fun _ _ _ h => h.elim⟩
  have hlen : args'.length ≤ fn.ntmps := by rw [hr.1]; exact hn
  have hs : SR E ⟨enumD args 0, [], 0, ([], 0)⟩ (fun _ => 0) (fun _ => .slice none 0 0) { tmps := args'.toArray ++ Array.replicate (fn.ntmps - args'.toArray.size) undef, defers := [] } w :=
    ⟨⟨⟨rfl, rfl, rfl, Nat.le_refl _, fun _ _ _ => rfl, Nat.le_refl _⟩, fun b hb => ⟨fun h => h, hB b hb⟩, (fun id el l h => by cases h), (fun id α el e enc L h => by cases h), (fun i j b h => by rcases h with ⟨_, _, h, _⟩ | ⟨_, _, _, _, _, h, _⟩ | ⟨_, h, _⟩ <;> cases h), (fun id o h => by cases h), fun _ => ⟨_, _, _, rfl⟩, fun id o h => by cases h⟩,
      rfl, by simp [E]; omega, fun i d hd => (enter_slots hr0 fn.ntmps i d hd).mono hle, fun _ _ _ h => h.elim, Nat.le_refl _⟩
  refine calls_of_wp hfn hc (wp_mono (wpc_sound (E := E) htt hb hm c hok _ _ _ _ _ w h hs) fun e a1 w1 hh => ?_)
  obtain ⟨x, s1, σ1, τ1, rfl, h1, h2⟩ := hh
  have fin : resK tt s1 fn.results.toList (fun l => seeD (snapD 6 s1.H (oneD l)) Q) → a1.defers = [] ∧ ∃ v, (results fn a1.tmps).run P w1 = .ok v w1 ∧ ∃ d u, Q d ∧ Ending.returned v = .returned u ∧ Under w.heap.size w w1 ∧ Rep (baseCtx w1 fun b => B b ∨ (w.heap.size ≤ b ∧ b < w1.heap.size)) d u := by
    intro hres
    obtain ⟨l, vs, h3, h4, h5⟩ := resK_run htt h2 _ _ hres
    rw [seeD_eq] at h3
    have hbel : Under w.heap.size w w1 := ⟨⟨h2.heap.kept.os, h2.heap.kept.tape, h2.heap.kept.output, h2.heap.kept.size, fun k hk => h2.heap.kept.block k hk (fun h => h)⟩, h2.heap.kept.drawn⟩
    refine ⟨h2.defers, _, results_at h5, _, _, h3, rfl, hbel, (snap_rep h2.heap 6 _ _ (oneD_rep h4)).mono ⟨fun _ _ _ h => h, fun b hb => ?_, fun _ _ _ h => h, fun _ _ h => h, fun _ _ _ h => h⟩⟩
    obtain ⟨h6, h7⟩ := hb
    rcases h6 with (h6 | h6) | h6
    · exact .inl h6
    · exact h6.elim
    · exact .inr ⟨h6, h7⟩
  cases x with
  | normal => exact fin h1
  | ret => exact fin h1
  | exit i => exact h1.elim
end
end Go.Proofs.Ytfghccppoilfhaa.V
