/-
  What pure operations yield, part 3: all of them. Condition: the table of types says what the program's says.
-/
import Derived.Test.YtfghccppoilfhaaVd
namespace Go.Proofs.Ytfghccppoilfhaa.V
open Go.RowKit

theorem Same.refl (w : World) : Same w w := ⟨fun _ _ _ h => h, fun _ _ h _ => h⟩
theorem Same.of_below {w w' : World} (h : Below w.heap.size w w') : Same w w' := ⟨fun b o u hu => (h.cell (World.block_lt_of_cell? w _ hu)).trans hu, fun b o hb _ => (h.block b (Array.getElem?_eq_some_iff.1 hb).1).trans hb⟩
theorem cellsAt.same {w w' : World} {b o : Nat} {c : List Value} (h : cellsAt w b o c) (hs : Same w w') : cellsAt w' b o c := fun j u hu => hs.1 _ _ _ (h j u hu)

section
variable {P : Program} {tt : TT} {C : Ctx}

theorem cellsAt_block {w : World} {b : Nat} {c : Array Value} {el : TypeId} {f : Nat × Nat} (h : w.heap[b]? = some (.cells c el f)) (n : Nat) : cellsAt w b n (c.toList.drop n) := fun j u hu => by
  simp only [World.cell?, h]
  simpa using hu

/-! ### Addresses -/
theorem fieldAt_run {t u : TypeId} {fs : Array Field} {f : Field} {k : Nat} {i : TypeInfo} (ht : P.underlying t = some (.struct fs)) (hf : fs[k]? = some f) (hu : f.type = u) (hi : P.info? u = some i) (hz : i.size ≠ 0) (b o : Nat) (w : World) :
    (Instr.fieldAt t (.pointer (some ⟨b, o, none⟩)) k).run P w = .ok (.pointer (some ⟨b, o + f.offset, none⟩)) w := by
  subst hu
  simp [Instr.fieldAt, Instr.sureAddr, run_und ht, hf, fieldPlace, run_size hi, hz, addr_add]

theorem fieldOff_spec (htt : ttOk P tt) {t : TypeId} {k o : Nat} {ti : TI} (h : fieldOff tt t k = some (o, ti)) :
    ∃ fs f, P.underlying t = some (.struct fs) ∧ fs[k]? = some f ∧ f.offset = o ∧ viewOf P f.type = some ti := by
  unfold fieldOff at h
  split at h
  · rename_i fs _ _ _ h1
    split at h
    · rename_i o' u h2
      split at h
      · rename_i ti' h3
        injection h with h; injection h with e1 e2; subst e1 e2
        obtain ⟨d, i, z, g1, _, _, g4, _⟩ := view_spec (tfind_view htt h1)
        obtain ⟨f, rfl, hf⟩ := ud_struct g4
        subst hf
        rw [List.getElem?_map] at h2
        cases hq : f.toList[k]? with
        | none => rw [hq] at h2; cases h2
        | some x =>
          rw [hq] at h2
          simp only [Option.map_some, Option.some.injEq, Prod.mk.injEq] at h2
          obtain ⟨rfl, rfl⟩ := h2
          exact ⟨f, x, g1, by simpa using hq, rfl, tfind_view htt h3⟩
      · cases h
    · cases h
  · cases h

theorem fp_drop {l : List D} {u : Value} (h : Rep C (.fp l) u) (n : Nat) : ∃ b o, u = .pointer (some ⟨b, o, none⟩) ∧ Rep C (.fp (dropD n l)) (.pointer (some ⟨b, o + n, none⟩)) := by
  cases h with
  | fp g hk hcell hrep =>
    rename_i b o
    rw [dropD_eq]
    exact ⟨b, o, rfl, .fp (fun j => g (n + j)) hk (fun j d hd => by rw [Nat.add_assoc]; exact hcell (n + j) d (by simpa using hd)) fun j d hd => hrep (n + j) d (by simpa using hd)⟩

theorem fp_cells {l : List D} {b o : Nat} (h : Rep C (.fp l) (.pointer (some ⟨b, o, none⟩))) : ∃ c, reps C l c ∧ cellsAt C.w b o c := by
  cases h with
  | fp g hk hcell hrep =>
    refine ⟨(List.range l.length).map g, ⟨by simp, fun j d u hd hu => ?_⟩, fun j u hu => ?_⟩
    · have hj := (List.getElem?_eq_some_iff.1 hd).1
      simp [List.getElem?_range hj] at hu
      subst hu; exact hrep j d hd
    · have hj : j < l.length := by have := (List.getElem?_eq_some_iff.1 hu).1; simpa using this
      simp [List.getElem?_range hj] at hu
      subst hu; exact hcell j l[j] (List.getElem?_eq_getElem hj)

variable {E : Env} {s : St} {σ : Nat → Nat} {τ : Nat → Value} {a : Act} {w : World}

theorem fieldAddrD_run (htt : ttOk P tt) {t : TypeId} {x : D} {k : Nat} {K : D → Prop} {u : Value} (h : fieldAddrD tt t x k K) (hx : Rep (ctxOf E s.H s.nx σ τ w) x u) :
    ∃ d v, K d ∧ Rep (ctxOf E s.H s.nx σ τ w) d v ∧ ∀ w', (Instr.fieldAt t u k).run P w' = .ok v w' := by
  unfold fieldAddrD at h
  split at h
  · rename_i o ti hfo
    obtain ⟨fs, f, g1, g2, rfl, g4⟩ := fieldOff_spec htt hfo
    obtain ⟨de, i, z, k1, k2, _, k4, k5, _⟩ := view_spec g4
    split at h
    · cases h
    · rename_i n hn
      have hz : i.size ≠ 0 := by rw [k5, hn]; omega
      split at h
      · rename_i id off
        cases hx with
        | loc hl =>
          obtain ⟨h1, rfl⟩ := hl
          exact ⟨_, _, h, .loc ⟨h1, rfl⟩, fun w' => fieldAt_run g1 g2 rfl k2 hz _ _ w'⟩
      · rename_i id e j off
        cases hx with
        | op hl =>
          obtain ⟨h1, rfl⟩ := hl
          exact ⟨_, _, h, .op ⟨h1, rfl⟩, fun w' => by rw [fieldAt_run g1 g2 rfl k2 hz, Nat.add_assoc]⟩
      · rename_i l
        obtain ⟨b, o, rfl, hr⟩ := fp_drop hx f.offset
        exact ⟨_, _, h, hr, fun w' => fieldAt_run g1 g2 rfl k2 hz _ _ w'⟩
      · cases h
  · cases h

theorem fieldD_run (htt : ttOk P tt) {t : TypeId} {x : D} {k : Nat} {K : D → Prop} {u : Value} (h : fieldD tt t x k K) (hx : Rep C x u) :
    ∃ d v, K d ∧ Rep C d v ∧ ∀ w', (Instr.field t u k).run P w' = .ok v w' := by
  unfold fieldD at h
  split at h
  · rename_i o ti hfo
    obtain ⟨fs, f, g1, g2, rfl, g4⟩ := fieldOff_spec htt hfo
    split at h
    · rename_i l
      obtain ⟨c, rfl, hs, hr⟩ := rep_agg hx
      split at h
      · rename_i d hd
        obtain ⟨v, h1, h2⟩ := part_run (P := P) g4 (C := C) (c := c) (l := l) ⟨by simpa using hs, fun j d u a b => hr j d u a (by simpa using b)⟩ hd
        exact ⟨d, v, h, h1, fun w' => by simp [Instr.field, run_und g1, g2, asAgg, h2]⟩
      · cases h
    · cases h
  · cases h

theorem extractD_run {x : D} {k : Nat} {K : D → Prop} {u : Value} (h : extractD x k K) (hx : Rep C x u) : ∃ d v, K d ∧ Rep C d v ∧ ∀ w', (Instr.extract u k).run P w' = .ok v w' := by
  unfold extractD at h
  split at h
  · rename_i l
    split at h
    · rename_i d hd
      cases hx with
      | tup hs hh =>
        rename_i c
        have hj : k < c.size := by have := (List.getElem?_eq_some_iff.1 hd).1; omega
        exact ⟨d, c[k], h, hh k d _ hd (Array.getElem?_eq_getElem hj), fun w' => by simp [Instr.extract, Array.getElem?_eq_getElem hj]⟩
    · cases h
  · cases h

theorem index_slice_run {t e : TypeId} {q : TypeInfo} (ht : P.underlying t = some (.slice e)) (hi : P.info? e = some q) {b o n c : Nat} {k : IntKind} {i : Int} (h0 : 0 ≤ i) (h1 : i < (n : Int)) (w : World) :
    (Instr.indexAt t (.slice (some ⟨b, o, none⟩) n c) (.int k i)).run P w = .ok (.pointer (some ⟨b, o + i.toNat * q.size, none⟩)) w := by
  simp [Instr.indexAt, asIntOf, run_und ht, h0, h1, run_size hi, addr_add]
theorem index_array_run {t e : TypeId} {q : TypeInfo} {n : Nat} (ht : P.underlying t = some (.array n e)) (hi : P.info? e = some q) {b o : Nat} {k : IntKind} {i : Int} (h0 : 0 ≤ i) (h1 : i < (n : Int)) (w : World) :
    (Instr.indexAt t (.pointer (some ⟨b, o, none⟩)) (.int k i)).run P w = .ok (.pointer (some ⟨b, o + i.toNat * q.size, none⟩)) w := by
  simp [Instr.indexAt, asIntOf, run_und ht, h0, h1, run_size hi, addr_add, Instr.sureAddr]

theorem rows_at {α : Type} {e : Nat} {enc : α → List D} {L : List α} {u : Value} (h : Rep C (.rows α e enc L) u) {i : Nat} {x : α} (hx : L[i]? = some x) :
    ∃ b o c, u = .slice (some ⟨b, o, none⟩) L.length c ∧ Rep C (.fp (enc x)) (.pointer (some ⟨b, o + i * e, none⟩)) := by
  cases h with
  | rows b o g hc hp hl hcell hrep =>
    obtain ⟨rfl, hok⟩ := hp (fun he => by rw [he] at hx; simp at hx)
    exact ⟨b, o, _, rfl, .fp (g i) hok (fun j d hd => hcell i x j d hx hd) fun j d hd => (hrep i x j d hx hd).mono C.still_le⟩
theorem lit_at {e : Nat} {L : List (List D)} {u : Value} (h : Rep C (.lit e L) u) {i : Nat} {x : List D} (hx : L[i]? = some x) :
    ∃ b o c, u = .slice (some ⟨b, o, none⟩) L.length c ∧ Rep C (.fp x) (.pointer (some ⟨b, o + i * e, none⟩)) := by
  cases h with
  | lit b o g hc hp hl hcell hrep =>
    obtain ⟨rfl, hok⟩ := hp (fun he => by rw [he] at hx; simp at hx)
    exact ⟨b, o, _, rfl, .fp (g i) hok (fun j d hd => hcell i x j d hx hd) fun j d hd => hrep i x j d hx hd⟩

theorem indexAddrD_run (htt : ttOk P tt) (hs : SR E s σ τ a w) {t : TypeId} {x y : D} {K : D → Prop} {u v : Value} (h : indexAddrD tt s t x y K) (hx : Rep (ctxOf E s.H s.nx σ τ w) x u) (hy : Rep (ctxOf E s.H s.nx σ τ w) y v) :
    ∃ d r, K d ∧ Rep (ctxOf E s.H s.nx σ τ w) d r ∧ ∀ w', (Instr.indexAt t u v).run P w' = .ok r w' := by
  unfold indexAddrD at h
  split at h
  · rename_i e _ _ _ k n ht
    have := rep_v hy; subst this
    obtain ⟨de, i, z, k1, _, _, k4, _⟩ := view_spec (tfind_view htt ht)
    have := ud_slice k4; subst this
    split at h
    · rename_i ti he
      obtain ⟨de, q, z, q1, q2, _, q4, q5, _⟩ := view_spec (tfind_view htt he)
      split at h
      · rename_i α sz enc L
        obtain ⟨hz, ⟨h0, h1⟩, hk⟩ := h
        have hlt : n.toNat < L.length := by omega
        have hget : L[n.toNat]? = some L[n.toNat] := List.getElem?_eq_getElem hlt
        obtain ⟨b, o, c, rfl, hr⟩ := rows_at hx hget
        exact ⟨_, _, hk _ hget, hr, fun w' => by rw [index_slice_run k1 q2 h0 h1, q5, hz]⟩
      · rename_i sz L
        split at h
        · rename_i m
          split at h
          · rename_i l hl
            obtain ⟨hz, hk⟩ := h
            obtain ⟨b, o, c, rfl, hr⟩ := lit_at hx hl
            have hlt := (List.getElem?_eq_some_iff.1 hl).1
            refine ⟨_, _, hk, hr, fun w' => ?_⟩
            rw [index_slice_run k1 q2 (by simp) (by simpa using hlt), q5, hz]
            rfl
          · cases h
        · cases h
      · rename_i id
        split at h
        · rename_i α el sz enc L hl
          obtain ⟨hz, ⟨h0, h1⟩, hk⟩ := h
          cases hx with
          | grow hg =>
            obtain ⟨hid, rfl⟩ := hg
            obtain ⟨_, xs, ⟨_, hown⟩, _⟩ := hs.heap.grow id _ _ _ _ _ hl
            rcases hown with ⟨_, hn⟩ | ⟨g, cap, cur, hv, _, _, _, _, _, _⟩
            · omega
            · refine ⟨_, .pointer (some ⟨g, n.toNat * sz + 0, none⟩), hk, .op ⟨hid, by rw [hv]; rfl⟩, fun w' => ?_⟩
              rw [hv, index_slice_run k1 q2 h0 h1, q5, hz]
              simp
        · cases h
      · rename_i id m
        split at h
        · rename_i α el sz enc L hl
          obtain ⟨hz, ⟨h0, h1, h2⟩, hk⟩ := h
          cases hx with
          | cut hg hn0 =>
            rename_i m0 c' p'
            obtain ⟨hid, hg⟩ := hg
            obtain ⟨_, xs, ⟨_, hown⟩, _⟩ := hs.heap.grow id _ _ _ _ _ hl
            rcases hown with ⟨_, hn⟩ | ⟨g, cap, cur, hv, _, _, _, _, _, _⟩
            · omega
            · have hv2 := hv
              rw [← hg] at hv
              injection hv with e1 e2 e3
              subst e1
              refine ⟨_, .pointer (some ⟨g, n.toNat * sz + 0, none⟩), hk, .op ⟨hid, by rw [hv2]; rfl⟩, fun w' => ?_⟩
              rw [index_slice_run k1 q2 h0 h1, q5, hz]
              simp
        · cases h
      · cases h
    · cases h
  · rename_i len e _ _ _ k n ht
    have := rep_v hy; subst this
    obtain ⟨de, i, z, k1, _, _, k4, _⟩ := view_spec (tfind_view htt ht)
    have := ud_array k4; subst this
    split at h
    · rename_i ti he
      obtain ⟨de, q, z, q1, q2, _, q4, q5, _⟩ := view_spec (tfind_view htt he)
      split at h
      · rename_i id off
        obtain ⟨⟨h0, h1⟩, hk⟩ := h
        cases hx with
        | loc hl =>
          obtain ⟨hid, rfl⟩ := hl
          exact ⟨_, _, hk, .loc ⟨hid, rfl⟩, fun w' => by rw [index_array_run k1 q2 h0 h1, q5]⟩
      · rename_i id e' i' off
        obtain ⟨⟨h0, h1⟩, hk⟩ := h
        cases hx with
        | op hl =>
          obtain ⟨hid, rfl⟩ := hl
          exact ⟨_, _, hk, .op ⟨hid, rfl⟩, fun w' => by rw [index_array_run k1 q2 h0 h1, q5, Nat.add_assoc]⟩
      · rename_i l
        obtain ⟨⟨h0, h1⟩, hk⟩ := h
        obtain ⟨b, o, rfl, hr⟩ := fp_drop hx (n.toNat * ti.size)
        exact ⟨_, _, hk, hr, fun w' => by rw [index_array_run k1 q2 h0 h1, q5]⟩
      · cases h
    · cases h
  · cases h

theorem indexD_run (htt : ttOk P tt) {t : TypeId} {x y : D} {K : D → Prop} {u v : Value} (h : indexD tt t x y K) (hx : Rep C x u) (hy : Rep C y v) :
    ∃ d r, K d ∧ Rep C d r ∧ ∀ w', (Instr.index t u v).run P w' = .ok r w' := by
  unfold indexD at h
  split at h
  · rename_i len e _ _ _ l k n ht
    have := rep_v hy; subst this
    obtain ⟨de, i, z, k1, _, _, k4, _⟩ := view_spec (tfind_view htt ht)
    have := ud_array k4; subst this
    obtain ⟨c, rfl, hs, hr⟩ := rep_agg hx
    split at h
    · rename_i ti he
      obtain ⟨de, q, z, q1, q2, _, q4, q5, _⟩ := view_spec (tfind_view htt he)
      obtain ⟨⟨h0, h1⟩, h⟩ := h
      split at h
      · rename_i d hd
        obtain ⟨r, h3, h4⟩ := part_run (P := P) (tfind_view htt he) (C := C) (c := c) (l := l) ⟨by simpa using hs, fun j d u a b => hr j d u a (by simpa using b)⟩ hd
        exact ⟨d, r, h, h3, fun w' => by simp [Instr.index, asIntOf, run_und k1, h0, h1, run_size q2, q5, h4]⟩
      · cases h
    · cases h
  · rename_i _ _ _ s k n ht
    have := rep_v hy; subst this
    have := rep_v hx; subst this
    obtain ⟨de, i, z, k1, _, _, k4, _⟩ := view_spec (tfind_view htt ht)
    have := ud_str k4; subst this
    obtain ⟨⟨h0, h1⟩, hk⟩ := h
    have hlt : n.toNat < s.size := by omega
    have hget : s[n.toNat]? = some s[n.toNat] := by simp [hlt]
    exact ⟨_, _, hk _ hget, .v, fun w' => by simp [Instr.index, asIntOf, run_und k1, h0, hget]⟩
  · cases h

theorem loadD_run (htt : ttOk P tt) (hs : SR E s σ τ a w) {t : TypeId} {x : D} {K : D → Prop} {u : Value} (h : loadD tt s t x K) (hx : Rep (ctxOf E s.H s.nx σ τ w) x u) :
    ∃ d r, K d ∧ Rep (ctxOf E s.H s.nx σ τ w) d r ∧ ∀ w', Same w w' → (Instr.loadAt t u).run P w' = .ok r w' := by
  unfold loadD at h
  split at h
  · rename_i ti ht
    have hv := tfind_view htt ht
    split at h
    · rename_i id off
      split at h
      · rename_i el l hl
        split at h
        · rename_i d hd
          cases hx with
          | loc hloc =>
            obtain ⟨_, rfl⟩ := hloc
            obtain ⟨_, c, hc, hsz, hr⟩ := hs.heap.cells id el l hl
            rw [dropD_eq] at hd
            obtain ⟨r, h1, h2⟩ := load_run (P := P) (b := σ id) (o := off) hv (reps_drop (C := ctxOf E s.H s.nx σ τ w) (c := c.toList) ⟨by simpa using hsz, fun j d u a b => hr j d u a (by simpa using b)⟩ off) hd
            exact ⟨d, r, h, h1, fun w' hw' => h2 w' ((cellsAt_block hc off).same hw')⟩
        · cases h
      · cases h
    · rename_i l
      split at h
      · rename_i d hd
        obtain ⟨b, o, rfl, _⟩ := fp_drop hx 0
        obtain ⟨c, h1, h2⟩ := fp_cells hx
        obtain ⟨r, h3, h4⟩ := load_run (P := P) (b := b) (o := o) hv h1 hd
        exact ⟨d, r, h, h3, fun w' hw' => h4 w' (h2.same hw')⟩
      · cases h
    · rename_i id e i off
      split at h
      · rename_i α el k enc L hl
        obtain ⟨rfl, hi, hk⟩ := h
        have hget : L[i]? = some L[i] := List.getElem?_eq_getElem hi
        have hk := hk _ hget
        split at hk
        · rename_i d hd
          cases hx with
          | op hop =>
            obtain ⟨_, rfl⟩ := hop
            obtain ⟨_, xs, ⟨hxl, hown⟩, hlen, hrep⟩ := hs.heap.grow id _ _ _ _ _ hl
            rcases hown with ⟨_, hn⟩ | ⟨g, cap, cur, hv', _, hg, _, _, hcs, htk⟩
            · rw [hn] at hi; exact absurd hi (Nat.not_lt_zero _)
            · have hel := hlen i _ hget
              have hb : i * k + k ≤ L.length * k := by
                have := Nat.mul_le_mul_right k (show i + 1 ≤ L.length from hi)
                rw [Nat.succ_mul] at this; exact this
              have hr : reps (ctxOf E s.H s.nx σ τ w) (enc L[i]) ((xs.drop (i * k)).take k) := by
                refine ⟨by simp [hel]; omega, fun j d u hd hu => ?_⟩
                have hj : j < k := by have := (List.getElem?_eq_some_iff.1 hd).1; omega
                rw [List.getElem?_take_of_lt hj, List.getElem?_drop] at hu
                exact (hrep i _ j d u hget hd hu).mono (Ctx.still_le _)
              rw [dropD_eq] at hd
              obtain ⟨r, h3, h4⟩ := load_run (P := P) (b := g) (o := i * k + off) hv (reps_drop hr off) hd
              refine ⟨d, r, hk, h3, fun w' hw' => ?_⟩
              have := h4 w' (fun j u hu => hw'.1 _ _ _ ?_)
              · rw [hv']; exact this
              · have hj : off + j < k := by
                  have := (List.getElem?_eq_some_iff.1 hu).1
                  simp at this; omega
                rw [List.getElem?_drop, List.getElem?_take_of_lt hj, List.getElem?_drop] at hu
                have h5 := cellsAt_block hg 0
                have h6 : (cur.toList.drop 0)[i * k + off + j]? = some u := by
                  rw [List.drop_zero, Nat.add_assoc]
                  rw [← htk, List.getElem?_take_of_lt (by omega)] at hu
                  exact hu
                have h7 := h5 _ u h6
                rw [Nat.zero_add] at h7
                exact h7
        · cases hk
      · cases h
    · cases h
  · cases h
end
end Go.Proofs.Ytfghccppoilfhaa.V
