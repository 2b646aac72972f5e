/-
  All pure operations. Condition: the table of types says what the program's says.
-/
import Derived.Test.YtfghccppoilfhaaVf
namespace Go.Proofs.Ytfghccppoilfhaa.V
open Go.RowKit

section
variable {P : Program} {tt : TT} {C : Ctx}

def repO (C : Ctx) : Option D → Option Value → Prop
  | none, none => True
  | some x, some u => Rep C x u
  | _, _ => False

theorem boundD_run {x : Option D} {u : Option Value} {d : Nat} {K : Int → Prop} (h : boundD x d K) (hx : repO C x u) : ∃ n : Int, K n ∧ ((u = none ∧ n = d) ∨ ∃ k, u = some (.int k n)) := by
  unfold boundD at h
  split at h
  · cases u with
    | none => exact ⟨d, h, .inl ⟨rfl, rfl⟩⟩
    | some u => exact hx.elim
  · rename_i k n
    cases u with
    | none => exact hx.elim
    | some u => exact ⟨n, h, .inr ⟨k, by rw [rep_v hx]⟩⟩
  · cases h

theorem bounds_run {b : Bool} {len cap : Nat} {lo hi : Option Value} {l h : Int} (hl : (lo = none ∧ l = (0 : Nat)) ∨ ∃ k, lo = some (.int k l)) (hh : (hi = none ∧ h = (len : Nat)) ∨ ∃ k, hi = some (.int k h)) (hc : len ≤ cap) (h0 : 0 ≤ l) (h1 : l ≤ h) (h2 : h ≤ (len : Int)) (w : World) :
    (Instr.sliceBounds b len cap lo hi none).run P w = .ok (l.toNat, h.toNat, cap) w := by
  have a1 : h ≤ (cap : Int) := by omega
  have a2 : 0 ≤ h := by omega
  have a3 : ¬ max h 0 < l := by omega
  rcases hl with ⟨rfl, hl⟩ | ⟨k, rfl⟩ <;> rcases hh with ⟨rfl, hh⟩ | ⟨k', rfl⟩
  · simp [Instr.sliceBounds, hl, hh]
  · simp [Instr.sliceBounds, Instr.sliceBound, asIntOf, hl, a1, a2]
  · simp [Instr.sliceBounds, Instr.sliceBound, asIntOf, hh, h0, show l ≤ (len : Int) by omega]
  · simp [Instr.sliceBounds, Instr.sliceBound, asIntOf, h0, a1, a2, a3]

theorem rows_part {α : Type} {e : Nat} {enc : α → List D} {L : List α} {p : Option Addr} {c : Nat} (h : Rep C (.rows α e enc L) (.slice p L.length c)) {l k : Nat} (h1 : l ≤ k) (h2 : k ≤ L.length) :
    Rep C (.rows α e enc ((L.take k).drop l)) (.slice (if c = l then p else p.map (·.add (l * e))) (k - l) (c - l)) := by
  have hlen : ((L.take k).drop l).length = k - l := by simp; omega
  rw [← hlen]
  have hget : ∀ i, ((L.take k).drop l)[i]? = if l + i < k then L[l + i]? else none := by
    intro i; rw [List.getElem?_drop, List.getElem?_take]
  cases h with
  | rows b o g hc hp hl hcell hrep =>
    refine .rows b (o + l * e) (fun i => g (l + i)) (by omega) (fun hn => ?_) (fun i x hx => ?_) (fun i x j d hx hd => ?_) (fun i x j d hx hd => ?_)
    · have hne : L ≠ [] := by rintro rfl; simp at hn
      obtain ⟨rfl, hok⟩ := hp hne
      refine ⟨?_, hok⟩
      have : ¬ c = l := by
        intro hcl
        apply hn
        apply List.eq_nil_of_length_eq_zero
        omega
      rw [if_neg this]
      simp [addr_add]
    · rw [hget] at hx
      split at hx
      · exact hl _ x hx
      · cases hx
    · rw [hget] at hx
      split at hx
      · have := hcell _ x j d hx hd
        rw [Nat.add_mul] at this
        rw [show o + l * e + i * e + j = o + (l * e + i * e) + j by omega]
        exact this
      · cases hx
    · rw [hget] at hx
      split at hx
      · exact hrep _ x j d hx hd
      · cases hx

theorem rows_slice {α : Type} {e : Nat} {enc : α → List D} {L : List α} {u : Value} (h : Rep C (.rows α e enc L) u) : ∃ p c, u = .slice p L.length c ∧ L.length ≤ c := by
  cases h with
  | rows b o g hc hp hl hcell hrep => exact ⟨_, _, rfl, hc⟩

variable {E : Env} {s : St} {σ : Nat → Nat} {τ : Nat → Value} {a : Act} {w : World}

theorem own_shape (hs : SR E s σ τ a w) {id : Nat} {β : Type} {el k : Nat} {enc : β → List D} {L : List β} (hl : lget s.H id = some (.grow β el k enc L)) :
    ∃ p c, τ id = .slice p L.length c ∧ L.length ≤ c ∧ p.map (·.add (0 * k)) = p ∧ (0 < c → p = some ⟨(τ id).ownBlock.getD 0, 0, none⟩) := by
  obtain ⟨_, xs, ⟨_, hown⟩, _⟩ := hs.heap.grow id _ _ _ _ _ hl
  rcases hown with ⟨hv, hn⟩ | ⟨g, cap, cur, hv, _, _, hc, _⟩
  · exact ⟨none, 0, by rw [hv, hn], by omega, rfl, fun h => by omega⟩
  · exact ⟨_, cap, hv, hc, by simp [addr_add], fun _ => by rw [hv]; rfl⟩

theorem bounds_run2 {len cap : Nat} {lo hi : Option Value} {l h : Int} (hl : (lo = none ∧ l = (0 : Nat)) ∨ ∃ k, lo = some (.int k l)) (hh : (hi = none ∧ h = (len : Nat)) ∨ ∃ k, hi = some (.int k h)) (hc : len ≤ cap) (h0 : 0 ≤ l) (h1 : l ≤ h) (h2 : h ≤ (cap : Int)) (w : World) :
    (Instr.sliceBounds true len cap lo hi none).run P w = .ok (l.toNat, h.toNat, cap) w := by
  have a2 : 0 ≤ h := by omega
  have a3 : ¬ max h 0 < l := by omega
  rcases hl with ⟨rfl, hl⟩ | ⟨k, rfl⟩ <;> rcases hh with ⟨rfl, hh⟩ | ⟨k', rfl⟩
  · simp [Instr.sliceBounds, hl, hh]
  · simp [Instr.sliceBounds, Instr.sliceBound, asIntOf, hl, h2, a2]
  · simp [Instr.sliceBounds, Instr.sliceBound, asIntOf, hh, h0, show l ≤ (len : Int) by omega]
  · simp [Instr.sliceBounds, Instr.sliceBound, asIntOf, h0, h2, a2, a3]

theorem sliceD_run (htt : ttOk P tt) (hs : SR E s σ τ a w) {t : TypeId} {x : D} {lo hi : Option D} {K : D → Prop} {u : Value} {vl vh : Option Value} (h : sliceD tt s t x lo hi K) (hx : Rep (ctxOf E s.H s.nx σ τ w) x u) (hlo : repO (ctxOf E s.H s.nx σ τ w) lo vl) (hhi : repO (ctxOf E s.H s.nx σ τ w) hi vh) :
    ∃ d r, K d ∧ Rep (ctxOf E s.H s.nx σ τ w) d r ∧ ∀ w, (Instr.sliceAt t u vl vh none).run P w = .ok r w := by
  unfold sliceD at h
  split at h
  · rename_i e _ _ _ ht
    obtain ⟨de, i, z, k1, _, _, k4, _⟩ := view_spec (tfind_view htt ht)
    have := ud_slice k4; subst this
    split at h
    · rename_i ti he
      obtain ⟨_, q, _, _, q2, _, _, q5, _⟩ := view_spec (tfind_view htt he)
      split at h
      · rename_i α k enc L
        obtain ⟨n, h, hn⟩ := boundD_run h hhi
        obtain ⟨m, h, hm⟩ := boundD_run h hlo
        obtain ⟨hz, ⟨h0, h1, h2⟩, hk⟩ := h
        obtain ⟨p, c, rfl, hc⟩ := rows_slice hx
        refine ⟨_, _, hk, rows_part hx (l := m.toNat) (k := n.toNat) (by omega) (by omega), fun w => ?_⟩
        simp only [Instr.sliceAt, Sem.run_bind, run_und k1, Result.andThen_ok, Instr.slice, bounds_run hm hn hc h0 h1 h2, run_size q2, Sem.run_pure, q5, hz]
      · rename_i id
        split at h
        · rename_i β el k enc L hl
          cases hx with
          | grow hg =>
            obtain ⟨hid, rfl⟩ := hg
            obtain ⟨p, c, hv, hc, hp0, hp⟩ := own_shape hs hl
            split at h
            · obtain ⟨n, h, hn⟩ := boundD_run h hhi
              obtain ⟨hz, ⟨h0, h2⟩, hk⟩ := h
              cases vl with
              | some _ => exact hlo.elim
              | none =>
                refine ⟨_, .slice p n.toNat c, hk, .cut (m := L.length) ⟨hid, hv.symm⟩ (by omega), fun w => ?_⟩
                rw [hv]
                simp only [Instr.sliceAt, Sem.run_bind, run_und k1, Result.andThen_ok, Instr.slice, bounds_run (lo := none) (l := 0) (.inl ⟨rfl, rfl⟩) hn hc (Int.le_refl _) h0 h2, run_size q2, Sem.run_pure, q5, hz, Int.toNat_zero, Nat.sub_zero, hp0, ite_self]
            · rename_i lo
              obtain ⟨n, h, hn⟩ := boundD_run h hhi
              obtain ⟨m, h, hm⟩ := boundD_run h hlo
              obtain ⟨hz, ⟨h0, h1, h2⟩, hk⟩ := h
              refine ⟨_, .slice (if c = m.toNat then p else p.map (·.add (m.toNat * k))) (n.toNat - m.toNat) (c - m.toNat), hk, ?_, fun w => ?_⟩
              · rw [show n.toNat - m.toNat = (n - m).toNat by omega]
                refine .win (fun hpos => ⟨hid, ?_⟩) (by omega)
                rw [if_neg (by omega), hp (by omega)]
                simp [addr_add]
              · rw [hv]
                simp only [Instr.sliceAt, Sem.run_bind, run_und k1, Result.andThen_ok, Instr.slice, bounds_run hm hn hc h0 h1 h2, run_size q2, Sem.run_pure, q5, hz]
        · cases h
      · rename_i id r
        split at h
        · rename_i β el k enc L hl
          cases hx with
          | cut hg hn0 =>
            rename_i m0 c' p'
            obtain ⟨hid, hg⟩ := hg
            obtain ⟨p, c, hv, hc, hp0, hp⟩ := own_shape hs hl
            obtain ⟨rfl, rfl, rfl⟩ : p' = p ∧ m0 = L.length ∧ c' = c := by
              rw [hv] at hg; injection hg with e1 e2 e3; exact ⟨e1, e2, e3⟩
            split at h
            · obtain ⟨n, h, hn⟩ := boundD_run h hhi
              obtain ⟨hz, ⟨hr, h0, h2⟩, hk⟩ := h
              cases vl with
              | some _ => exact hlo.elim
              | none =>
                refine ⟨_, .slice p' n.toNat c', hk, .cut (m := L.length) ⟨hid, hg⟩ (by omega), fun w => ?_⟩
                simp only [Instr.sliceAt, Sem.run_bind, run_und k1, Result.andThen_ok, Instr.slice, bounds_run2 (lo := none) (l := 0) (.inl ⟨rfl, rfl⟩) hn (Nat.le_trans hr hc) (Int.le_refl _) h0 (by omega), run_size q2, Sem.run_pure, q5, hz, Int.toNat_zero, Nat.sub_zero, hp0, ite_self]
            · rename_i lo
              obtain ⟨n, h, hn⟩ := boundD_run h hhi
              obtain ⟨m, h, hm⟩ := boundD_run h hlo
              obtain ⟨hz, ⟨hr, h0, h1, h2⟩, hk⟩ := h
              refine ⟨_, .slice (if c' = m.toNat then p' else p'.map (·.add (m.toNat * k))) (n.toNat - m.toNat) (c' - m.toNat), hk, ?_, fun w => ?_⟩
              · rw [show n.toNat - m.toNat = (n - m).toNat by omega]
                refine .win (fun hpos => ⟨hid, ?_⟩) (by omega)
                rw [if_neg (by omega), hp (by omega)]
                simp [addr_add]
              · simp only [Instr.sliceAt, Sem.run_bind, run_und k1, Result.andThen_ok, Instr.slice, bounds_run2 hm hn (Nat.le_trans hr hc) h0 h1 (by omega), run_size q2, Sem.run_pure, q5, hz]
        · cases h
      · obtain ⟨n, h, hn⟩ := boundD_run h hhi
        obtain ⟨m, h, hm⟩ := boundD_run h hlo
        obtain ⟨⟨rfl, rfl⟩, hk⟩ := h
        have := rep_v hx; subst this
        refine ⟨_, _, hk, .v, fun w => ?_⟩
        simp only [Instr.sliceAt, Sem.run_bind, run_und k1, Result.andThen_ok, Instr.slice, bounds_run hm hn (Nat.le_refl _) (Int.le_refl _) (Int.le_refl _) (Int.le_refl _), run_size q2, Sem.run_pure, q5, Int.toNat_zero, Nat.sub_zero, if_true]
      · cases h
    · cases h
  · rename_i _ _ _ ht
    obtain ⟨de, i, z, k1, _, _, k4, _⟩ := view_spec (tfind_view htt ht)
    have := ud_str k4; subst this
    split at h
    · rename_i s
      obtain ⟨n, h, hn⟩ := boundD_run h hhi
      obtain ⟨m, h, hm⟩ := boundD_run h hlo
      obtain ⟨⟨h0, h1, h2⟩, hk⟩ := h
      have := rep_v hx; subst this
      refine ⟨_, _, hk, .v, fun w => ?_⟩
      simp only [Instr.sliceAt, Sem.run_bind, run_und k1, Result.andThen_ok, Instr.slice, Option.isSome_none, Bool.false_eq_true, if_false, bounds_run hm hn (Nat.le_refl _) h0 h1 h2, Sem.run_pure]
    · cases h
  · rename_i n e _ _ _ ht
    obtain ⟨de, i, z, k1, _, _, k4, _⟩ := view_spec (tfind_view htt ht)
    have := ud_array k4; subst this
    split at h
    · rename_i ti he
      obtain ⟨_, q, _, _, q2, _, _, q5, _⟩ := view_spec (tfind_view htt he)
      split at h
      · rename_i id off
        obtain ⟨⟨h1, h2⟩, hk⟩ := h
        have h2 : 0 < n := (Nat.blt_eq ▸ h2 : _ < _)
        cases vl with
        | some _ => exact hlo.elim
        | none =>
        cases vh with
        | some _ => exact hhi.elim
        | none =>
        cases hx with
        | loc hg =>
          obtain ⟨hid, rfl⟩ := hg
          have hnz : ¬ n = 0 := by omega
          refine ⟨_, .slice (some ⟨σ id, off, none⟩) n n, hk, .asl ⟨hid, rfl⟩, fun w => ?_⟩
          simp [Instr.sliceAt, Sem.run_bind, run_und k1, Instr.sureAddr, Instr.sliceBounds, run_size q2]
          exact fun _ => by simp [Addr.add]
      · cases h
    · cases h
  · cases h

theorem slice3D_run (htt : ttOk P tt) (hs : SR E s σ τ a w) {t : TypeId} {x mx : D} {lo hi : Option D} {K : D → Prop} {u um : Value} {vl vh : Option Value} (h : slice3D tt s t x lo hi mx K) (hx : Rep (ctxOf E s.H s.nx σ τ w) x u) (hlo : repO (ctxOf E s.H s.nx σ τ w) lo vl) (hhi : repO (ctxOf E s.H s.nx σ τ w) hi vh) (hmx : Rep (ctxOf E s.H s.nx σ τ w) mx um) :
    ∃ d r, K d ∧ Rep (ctxOf E s.H s.nx σ τ w) d r ∧ ∀ w, (Instr.sliceAt t u vl vh (some um)).run P w = .ok r w := by
  unfold slice3D at h
  split at h
  · rename_i e _ _ _ ht
    obtain ⟨de, i, z, k1, _, _, k4, _⟩ := view_spec (tfind_view htt ht)
    have := ud_slice k4; subst this
    split at h
    · rename_i ti he
      obtain ⟨_, q, _, _, q2, _, _, q5, _⟩ := view_spec (tfind_view htt he)
      split at h
      · rename_i id kk mm
        split at h
        · rename_i β el k enc L hl
          cases hi with
          | none => exact h.elim
          | some hi =>
          obtain ⟨n, h, hn⟩ := boundD_run h hhi
          have := rep_v hmx; subst this
          cases lo with
          | none =>
            have hvl : vl = none := by
              cases vl with
              | none => rfl
              | some _ => exact hlo.elim
            subst hvl
            obtain ⟨hz, ⟨h1, h2, h3⟩, hk⟩ := h
            cases hx with
            | grow hg =>
              obtain ⟨hid, rfl⟩ := hg
              obtain ⟨p, c, hv, hc, _, _⟩ := own_shape hs hl
              have b0 : 0 ≤ mm := by omega
              have b1 : mm ≤ (c : Int) := by omega
              have b2 : (Instr.sliceBounds true L.length c none vh (some (.int kk mm))).run P = fun w => .ok (0, n.toNat, mm.toNat) w := by
                funext w
                have a2 : 0 ≤ n := by omega
                have a5 : n ≤ max mm 0 := by omega
                have hn : ∃ k, vh = some (.int k n) := by
                  cases vh with
                  | none => exact hhi.elim
                  | some v =>
                    rcases hn with ⟨h, _⟩ | h
                    · cases h
                    · exact h
                obtain ⟨k', rfl⟩ := hn
                simp [Instr.sliceBounds, Instr.sliceBound, asIntOf, b0, b1, a2, a5]
              have hp : (if mm.toNat = 0 then p else p.map (·.add (0 * q.size))) = p := by
                split
                · rfl
                · cases p with
                  | none => rfl
                  | some a => simp [Addr.add]
              refine ⟨_, .slice p n.toNat mm.toNat, hk, .cap (m := L.length) (c := c) ⟨hid, hv.symm⟩ (by omega), fun w => ?_⟩
              rw [hv]
              simp only [Instr.sliceAt, Sem.run_bind, run_und k1, Result.andThen_ok, Instr.slice, b2, run_size q2, Sem.run_pure, hp, Nat.sub_zero]
          | some lo =>
          obtain ⟨m, h, hm⟩ := boundD_run h hlo
          obtain ⟨hz, ⟨h0, h1, h2, h3⟩, hk⟩ := h
          cases hx with
          | grow hg =>
            obtain ⟨hid, rfl⟩ := hg
            obtain ⟨p, c, hv, hc, _, _⟩ := own_shape hs hl
            have b0 : 0 ≤ mm := by omega
            have b1 : mm ≤ (c : Int) := by omega
            have b2 : (Instr.sliceBounds true L.length c vl vh (some (.int kk mm))).run P = fun w => .ok (m.toNat, n.toNat, mm.toNat) w := by
              funext w
              have a2 : 0 ≤ n := by omega
              have a3 : ¬ max n 0 < m := by omega
              have a4 : ¬ max mm 0 < n := by omega
              have a5 : n ≤ max mm 0 := by omega
              have a6 : m ≤ max n 0 := by omega
              have hn : ∃ k, vh = some (.int k n) := by
                cases vh with
                | none => exact hhi.elim
                | some v =>
                  rcases hn with ⟨h, _⟩ | h
                  · cases h
                  · exact h
              obtain ⟨k', rfl⟩ := hn
              rcases hm with ⟨rfl, hl⟩ | ⟨k, rfl⟩
              · simp [Instr.sliceBounds, Instr.sliceBound, asIntOf, b0, b1, hl, a2, a5]
              · simp [Instr.sliceBounds, Instr.sliceBound, asIntOf, b0, b1, h0, a2, a5, a6]
            refine ⟨_, .slice (if mm.toNat = m.toNat then p else p.map (·.add (m.toNat * q.size))) (n.toNat - m.toNat) (mm.toNat - m.toNat), hk, .junk, fun w => ?_⟩
            rw [hv]
            simp only [Instr.sliceAt, Sem.run_bind, run_und k1, Result.andThen_ok, Instr.slice, b2, run_size q2, Sem.run_pure]
        · cases h
      · cases h
    · cases h
  · cases h

theorem capD_run (htt : ttOk P tt) {t : TypeId} {x : D} {K : D → Prop} {u : Value} (h : capD tt t x K) (hx : Rep C x u) (ty : TypeId) :
    ∃ d r, K d ∧ Rep C d r ∧ ∀ w, (Builtin.cap_ #[t] ty #[u]).run P w = .ok r w := by
  unfold capD at h
  split at h
  · rename_i e _ _ _ ht
    obtain ⟨de, i, z, k1, _, _, k4, _⟩ := view_spec (tfind_view htt ht)
    have := ud_slice k4; subst this
    split at h
    · have := rep_v hx; subst this
      exact ⟨_, _, h, .v, fun w => by simp [Builtin.cap_, run_und k1, goInt]⟩
    · cases h
  · cases h

theorem lenD_run (htt : ttOk P tt) (hs : SR E s σ τ a w) {t : TypeId} {x : D} {K : D → Prop} {u : Value} (h : lenD tt s t x K) (hx : Rep (ctxOf E s.H s.nx σ τ w) x u) (ty : TypeId) :
    ∃ d r, K d ∧ Rep (ctxOf E s.H s.nx σ τ w) d r ∧ ∀ w', Same w w' → (Builtin.len_ #[t] ty #[u]).run P w' = .ok r w' := by
  unfold lenD at h
  split at h
  · rename_i e _ _ _ ht
    obtain ⟨de, i, z, k1, _, _, k4, _⟩ := view_spec (tfind_view htt ht)
    have := ud_slice k4; subst this
    split at h
    · obtain ⟨p, c, rfl, _⟩ := rows_slice hx
      exact ⟨_, _, h, .v, fun w' _ => by simp [Builtin.len_, run_und k1, goInt]⟩
    · cases hx with
      | lit b o g hc hp hl hcell hrep => exact ⟨_, _, h, .v, fun w' _ => by simp [Builtin.len_, run_und k1, goInt]⟩
    · cases hx with
      | emp => exact ⟨_, _, h, .v, fun w' _ => by simp [Builtin.len_, run_und k1, goInt]⟩
    · cases hx with
      | win hg hc => exact ⟨_, _, h, .v, fun w' _ => by simp [Builtin.len_, run_und k1, goInt]⟩
    · cases hx with
      | asl hg => exact ⟨_, _, h, .v, fun w' _ => by simp [Builtin.len_, run_und k1, goInt]⟩
    · cases hx with
      | cut hg hc => exact ⟨_, _, h, .v, fun w' _ => by simp [Builtin.len_, run_und k1, goInt]⟩
    · have := rep_v hx; subst this
      exact ⟨_, _, h, .v, fun w' _ => by simp [Builtin.len_, run_und k1, goInt]⟩
    · rename_i id
      split at h
      · rename_i α el sz enc L hl
        cases hx with
        | grow hg =>
          obtain ⟨hid, rfl⟩ := hg
          obtain ⟨_, xs, ⟨_, hown⟩, _⟩ := hs.heap.grow id _ _ _ _ _ hl
          rcases hown with ⟨hv, hn⟩ | ⟨g, cap, cur, hv, _, _, _, _, _, _⟩
          · exact ⟨_, _, h, .v, fun w' _ => by rw [hv, hn]; simp [Builtin.len_, run_und k1, goInt]⟩
          · exact ⟨_, _, h, .v, fun w' _ => by rw [hv]; simp [Builtin.len_, run_und k1, goInt]⟩
      · cases h
    · cases h
  · rename_i _ _ _ ht
    obtain ⟨de, i, z, k1, _, _, k4, _⟩ := view_spec (tfind_view htt ht)
    have := ud_str k4; subst this
    split at h
    · have := rep_v hx; subst this
      exact ⟨_, _, h, .v, fun w' _ => by simp [Builtin.len_, run_und k1, goInt]⟩
    · cases h
  · rename_i n e _ _ _ ht
    obtain ⟨de, i, z, k1, _, _, k4, _⟩ := view_spec (tfind_view htt ht)
    have := ud_array k4; subst this
    exact ⟨_, _, h, .v, fun w' _ => by simp [Builtin.len_, run_und k1, goInt]⟩
  · rename_i kt et _ _ _ ht
    obtain ⟨de, i, z, k1, _, _, k4, _⟩ := view_spec (tfind_view htt ht)
    have := ud_map k4; subst this
    split at h
    · rename_i id
      split at h
      · rename_i es ck hl
        cases hx with
        | mapr hg =>
          obtain ⟨hid, hv⟩ := hg
          injection hv with hv; injection hv with hv; injection hv with hv
          obtain ⟨_, hob⟩ := hs.heap.obj id _ hl
          have hob : w.heap[σ id]? = some (.map es ck) := hob
          refine ⟨_, _, h, .v, fun w' hw' => ?_⟩
          have hob' := hw'.2 _ _ hob ⟨_, _, rfl⟩
          rw [← hv] at hob'
          simp [Builtin.len_, run_und k1, goInt, getObj, Sem.run, hob']
      · cases h
    · cases h
  · cases h

theorem evD_rep (h : SR E s σ τ a w) (x : Operand) : Rep (ctxOf E s.H s.nx σ τ w) (evD s x) (a.eval x) := by
  cases x with
  | tmp i => exact h.slot i
  | const v => cases v <;> first | exact .v | exact .junk
  | global g => exact .junk
  | func f => exact .fn rfl rfl (fun j d u h => by simp at h) (fun j d u h => by simp at h)

theorem listD_rep (h : SR E s σ τ a w) : ∀ l : List Operand, reps (ctxOf E s.H s.nx σ τ w) (listD s l) (l.map a.eval)
  | [] => reps_nil
  | x :: r => reps_cons (evD_rep h x) (listD_rep h r)

theorem partsD_rep (h : SR E s σ τ a w) : ∀ l : List (Nat × Operand), repsP (ctxOf E s.H s.nx σ τ w) (partsD s l) (l.map fun x => (x.1, a.eval x.2))
  | [] => ⟨rfl, fun j x u h => by simp [partsD] at h⟩
  | (i, x) :: r => by
    have ih := partsD_rep h r
    refine ⟨by simp [partsD, ih.1], fun j y u hy hu => ?_⟩
    cases j with
    | zero =>
      simp only [partsD, List.getElem?_cons_zero, Option.some.injEq, List.map_cons] at hy hu
      subst hy hu; exact ⟨rfl, evD_rep h x⟩
    | succ j => exact ih.2 j y u (by simpa [partsD] using hy) (by simpa using hu)

theorem repO_map (h : SR E s σ τ a w) (x : Option Operand) : repO (ctxOf E s.H s.nx σ τ w) (x.map (evD s)) (x.map a.eval) := by
  cases x with
  | none => trivial
  | some x => exact evD_rep h x

theorem yields_of {K : D → Prop} {o : Oper} {ρ : Operand → Value} {s : Sem Value} (he : execOp ρ o = (do pure (.value (← s)))) (h : ∃ d v, K d ∧ Rep C d v ∧ ∀ w, s.run P w = .ok v w) : Yields' P C K w o ρ := by
  obtain ⟨d, v, h1, h2, h3⟩ := h
  exact ⟨d, v, h1, h2, fun w' _ => by rw [he]; simp [h3]⟩

theorem pure_sound (htt : ttOk P tt) (hs : SR E s σ τ a w) (o : Oper) {K : D → Prop} (hk : pureD P tt s o.op K) : Yields' P (ctxOf E s.H s.nx σ τ w) K w o a.eval := by
  unfold pureD at hk
  split at hk
  · rename_i x ho
    rw [seeD_eq] at hk
    exact ⟨_, _, hk, evD_rep hs x, fun w' _ => by simp [execOp, ho]⟩
  · rename_i x ho
    rw [seeD_eq] at hk
    exact ⟨_, _, hk, evD_rep hs x, fun w' _ => by simp [execOp, ho]⟩
  · rename_i c x y ho
    split at hk
    · rename_i β hc
      have hv := evD_rep hs c
      rw [hc] at hv
      have hv := rep_v hv
      cases β with
      | true =>
        have hk : seeD (evD s x) K := hk
        rw [seeD_eq] at hk
        exact ⟨_, _, hk, evD_rep hs x, fun w' _ => by simp [execOp, ho, hv, asBool]⟩
      | false =>
        have hk : seeD (evD s y) K := hk
        rw [seeD_eq] at hk
        exact ⟨_, _, hk, evD_rep hs y, fun w' _ => by simp [execOp, ho, hv, asBool]⟩
    · cases hk
  · rename_i op t x y _ ho
    rcases exactK_or hk with hk | hk
    · exact hk.sound o ho E σ τ a w hs
    rcases exactK_or hk with hk | hk
    · exact hk.sound o ho E σ τ a w hs
    exact yields_of (s := do eqGuard op t x y (a.eval x) (a.eval y); binOp op t (a.eval x) (a.eval y)) (by simp only [execOp, ho]) (binD_run htt (ctx_sane hs.heap) hk (evD_rep hs x) (evD_rep hs y) x y)
  · rename_i op _ x ho
    exact yields_of (s := Op.unary op (a.eval x)) (by simp only [execOp, ho]) (unD_run hk (evD_rep hs x))
  · rename_i src dst x ho
    exact yields_of (s := convert src dst (a.eval x)) (by simp only [execOp, ho]) (convD_run htt hk (evD_rep hs x))
  · rename_i t x f ho
    rcases exactK_or hk with hk | hk
    · exact hk.sound o ho E σ τ a w hs
    exact yields_of (s := Instr.fieldAt t (a.eval x) f) (by simp only [execOp, ho]) (fieldAddrD_run htt hk (evD_rep hs x))
  · rename_i t x f ho
    exact yields_of (s := Instr.field t (a.eval x) f) (by simp only [execOp, ho]) (fieldD_run htt hk (evD_rep hs x))
  · rename_i t x i ho
    rcases exactK_or hk with hk | hk
    · exact hk.sound o ho E σ τ a w hs
    exact yields_of (s := Instr.indexAt t (a.eval x) (a.eval i)) (by simp only [execOp, ho]) (indexAddrD_run htt hs hk (evD_rep hs x) (evD_rep hs i))
  · rename_i t x i ho
    exact yields_of (s := Instr.index t (a.eval x) (a.eval i)) (by simp only [execOp, ho]) (indexD_run htt hk (evD_rep hs x) (evD_rep hs i))
  · rename_i x i ho
    exact yields_of (s := Instr.extract (a.eval x) i) (by simp only [execOp, ho]) (extractD_run hk (evD_rep hs x))
  · rename_i t x ho
    rcases exactK_or hk with hk | hk
    · exact hk.sound o ho E σ τ a w hs
    rcases objK_or hk with hk | hk
    · exact hk.sound o ho E σ τ a w hs
    obtain ⟨d, v, h1, h2, h3⟩ := loadD_run htt hs hk (evD_rep hs x)
    refine ⟨d, v, h1, h2, fun w' hw' => ?_⟩
    rcases hw' with hw' | hw'
    · rw [ho] at hw'; cases hw'
    · simp [execOp, ho, h3 w' hw']
  · rename_i t x lo hi ho
    rcases exactK_or hk with hk | hk
    · exact hk.sound o ho E σ τ a w hs
    exact yields_of (s := Instr.sliceAt t (a.eval x) (lo.map a.eval) (hi.map a.eval) none) (by simp only [execOp, ho, Option.map_none]) (sliceD_run htt hs hk (evD_rep hs x) (repO_map hs lo) (repO_map hs hi))
  · rename_i t x lo hi mx ho
    exact yields_of (s := Instr.sliceAt t (a.eval x) (lo.map a.eval) (hi.map a.eval) (some (a.eval mx))) (by simp only [execOp, ho, Option.map_some]) (slice3D_run htt hs hk (evD_rep hs x) (repO_map hs lo) (repO_map hs hi) (evD_rep hs mx))
  · rename_i t ps ho
    have hp : repsP (ctxOf E s.H s.nx σ τ w) (partsD s ps.toList) (ps.map fun (x : Nat × Operand) => (x.1, a.eval x.2)).toList := by
      rw [Array.toList_map]; exact partsD_rep hs ps.toList
    exact yields_of (s := Instr.build t (ps.map fun x => (x.1, a.eval x.2))) (by simp only [execOp, ho]) (buildD_run htt (ctx_sane hs.heap) hk hp)
  · rename_i f first captured ho
    refine ⟨_, .func (.func f) (first.map a.eval) (captured.map a.eval), hk, ?_, fun w' _ => by simp [execOp, ho, Instr.makeFunc]⟩
    have h1 := listD_rep hs first.toList
    have h2 := listD_rep hs captured.toList
    refine .fn (by simpa using h1.1) (by simpa using h2.1) (fun j d u hd hu => h1.2 j d u hd ?_) fun j d u hd hu => h2.2 j d u hd ?_
    · rw [← Array.toList_map]; simpa using hu
    · rw [← Array.toList_map]; simpa using hu
  · rename_i x ho
    rcases exactK_or hk with hk | hk
    · exact hk.sound o ho E σ τ a w hs
    have hv := evD_rep hs x
    split at hk <;> rename_i hx <;> first | (cases hk; done) | skip
    all_goals
      rw [hx] at hv
      refine ⟨_, a.eval x, hk, hv, fun w' _ => ?_⟩
      generalize hu : a.eval x = u at hv
      cases hv
    · rename_i hl; obtain ⟨_, rfl⟩ := hl; simp [execOp, ho, hu]
    · rename_i hl; obtain ⟨_, rfl⟩ := hl; simp [execOp, ho, hu]
    · simp [execOp, ho, hu]
    · simp [execOp, ho, hu]
    · simp [execOp, ho, hu]
  · rename_i x t ho
    rcases exactK_or hk with hk | hk
    · exact hk.sound o rfl E σ τ a w hs
    obtain ⟨d, v, h1, h2, h3⟩ := lenD_run htt hs hk (evD_rep hs x) o.type
    refine ⟨d, v, h1, h2, fun w' hw' => ?_⟩
    rcases hw' with hw' | hw'
    · rw [ho] at hw'; cases hw'
    · simp [execOp, ho, resolve, invoke, builtin, h3 w' hw']
  · rename_i x t ho
    obtain ⟨d, v, h1, h2, h3⟩ := capD_run htt hk (evD_rep hs x) o.type
    exact ⟨d, v, h1, h2, fun w' _ => by simp [execOp, ho, resolve, invoke, builtin, h3]⟩
  · rename_i x y ts ho
    obtain ⟨d, v, h1, h2, h3⟩ := minmaxD_run (P := P) hk (evD_rep hs x) (evD_rep hs y) ts o.type
    refine ⟨d, v, h1, h2, fun w' _ => ?_⟩
    have h3 := h3 w'
    simp only [if_true] at h3
    simp [execOp, ho, resolve, invoke, builtin, h3]
  · rename_i x y ts ho
    obtain ⟨d, v, h1, h2, h3⟩ := minmaxD_run (P := P) hk (evD_rep hs x) (evD_rep hs y) ts o.type
    refine ⟨d, v, h1, h2, fun w' _ => ?_⟩
    have h3 := h3 w'
    simp only [Bool.false_eq_true, if_false] at h3
    simp [execOp, ho, resolve, invoke, builtin, h3]
  · cases hk
end
end Go.Proofs.Ytfghccppoilfhaa.V
