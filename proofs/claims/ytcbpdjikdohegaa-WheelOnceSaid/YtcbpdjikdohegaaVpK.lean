/-
  A call beside an object of one's own that it doesn't know: the object stays as it is. Conditions: the object's cells bear no place; nobody else's cells name it.
-/
import Derived.Test.YtcbpdjikdohegaaVzK
namespace Go.Proofs.Ytcbpdjikdohegaa.V
open Go.RowKit

section
variable {P : Program} {K : D → St → Prop} {f : FuncId} {args : List D}

/-- No object's cells name a place from nx on. -/
def cellsCut (nx : Nat) : List (Nat × LO) → Bool
  | [] => true
  | (_, .cells _ l) :: r => l.all (cutOk 6 nx) && cellsCut nx r
  | _ :: r => cellsCut nx r
theorem cellsCut_get {nx : Nat} : ∀ {H : List (Nat × LO)}, cellsCut nx H = true → ∀ id el l, lget H id = some (.cells el l) → l.all (cutOk 6 nx) = true
  | [], _, _, _, _, h => by cases h
  | (k, o) :: r, hc, id, el, l, h => by
    by_cases hk : id = k
    · subst hk
      rw [lget_same] at h
      injection h with h; subst h
      simp only [cellsCut, Bool.and_eq_true] at hc
      exact hc.1
    · rw [lget_ne _ _ hk] at h
      refine cellsCut_get (H := r) ?_ id el l h
      cases o <;> first | exact hc | (simp only [cellsCut, Bool.and_eq_true] at hc; exact hc.2)
theorem slotsCut_get {nx : Nat} : ∀ {F : List (Nat × D)}, F.all (fun p => cutOk 6 nx p.2) = true → ∀ i d, lget F i = some d → cutOk 6 nx d = true
  | [], _, _, _, h => by cases h
  | (k, x) :: r, hc, i, d, h => by
    simp only [List.all_cons, Bool.and_eq_true] at hc
    by_cases hk : i = k
    · subst hk; rw [lget_same] at h; injection h with h; subst h; exact hc.1
    · rw [lget_ne _ _ hk] at h; exact slotsCut_get hc.2 i d h

theorem idsCut_get {nx : Nat} : ∀ {H : List (Nat × LO)}, H.all (fun p => Nat.blt p.1 nx) = true → ∀ id o, lget H id = some o → id < nx
  | [], _, _, _, h => by cases h
  | (k, x) :: r, hc, id, o, h => by
    simp only [List.all_cons, Bool.and_eq_true] at hc
    by_cases hk : id = k
    · subst hk; exact (Nat.blt_eq ▸ hc.1 : _ < _)
    · rw [lget_ne _ _ hk] at h; exact idsCut_get hc.2 id o h

theorem CallVC.frame {F : List (Nat × D)} {H : List (Nat × LO)} {nx : Nat} {G : List Nat × Nat} {el : TypeId} {l : List D} {i off : Nat} (hl : l.all (flatD 1) = true) (hFi : lget F i = none) (hF : F.all (fun p => cutOk 6 nx p.2) = true) (hH : cellsCut nx H = true) (hI : H.all (fun p => Nat.blt p.1 nx) = true) (hG : Nat.ble G.2 nx = true) (ha : args.all (cutOk 6 nx) = true)
    (h : CallVC P false f args ⟨F, H, nx, G⟩ fun d s' => K d ⟨(i, .loc s'.nx off) :: s'.F, (s'.nx, .cells el l) :: s'.H, s'.nx + 1, s'.G⟩) :
    CallVC P false f args ⟨(i, .loc nx off) :: F, (nx, .cells el l) :: H, nx + 1, G⟩ K := by
  have hG := Nat.le_of_ble_eq_true hG
  refine ⟨h.left, fun E σ τ a w args' hs hr => ?_⟩
  have hlt := idsCut_get hI
  obtain ⟨hmine0, c0, hc0, hcs0, hcr0⟩ := hs.heap.cells nx el l (lget_same _ _ _)
  have hsz0 : σ nx < w.heap.size := (Array.getElem?_eq_some_iff.1 hc0).1
  have hown0 : owned ((nx, .cells el l) :: H) σ τ nx (σ nx) := .inl ⟨_, _, lget_same _ _ _, rfl⟩
  have hget : ∀ id o, lget H id = some o → lget ((nx, .cells el l) :: H) id = some o := fun id o h1 => by
    have := hlt id o h1
    rw [lget_ne _ _ (by omega)]; exact h1
  have hup : ∀ {id b}, owned H σ τ id b → id ≠ nx ∧ owned ((nx, .cells el l) :: H) σ τ id b := fun {id b} ho => by
    rcases ho with ⟨el', l', h1, h2⟩ | ⟨α, el', e, enc, L, h1, h2⟩ | ⟨o, h1, h2⟩
    · exact ⟨by have := hlt _ _ h1; omega, .inl ⟨_, _, hget _ _ h1, h2⟩⟩
    · exact ⟨by have := hlt _ _ h1; omega, .inr (.inl ⟨_, _, _, _, _, hget _ _ h1, h2⟩)⟩
    · exact ⟨by have := hlt _ _ h1; omega, .inr (.inr ⟨_, hget _ _ h1, h2⟩)⟩
  let E2 : Env := ⟨w, (ctxOf E ((nx, .cells el l) :: H) (nx + 1) σ τ w).ok, fun b => ∃ id, owned H σ τ id b, E.n, E.X⟩
  have hok2 : ∀ b, (ctxOf E ((nx, .cells el l) :: H) (nx + 1) σ τ w).ok b → (ctxOf E2 H nx σ τ w).ok b := fun b hb => ⟨.inl hb, hb.2.1, fun id ho => hb.2.2 id (hup ho).2⟩
  have hlec : ((ctxOf E ((nx, .cells el l) :: H) (nx + 1) σ τ w).cut nx).Le (ctxOf E2 H nx σ τ w) :=
    ⟨fun _ _ _ h => h, hok2, fun id off v hv => ⟨hv.1, hv.2.2⟩, fun id v hv => ⟨hv.1, hv.2.2⟩, fun id off v hv => ⟨hv.1, hv.2.2⟩⟩
  have hles : (ctxOf E ((nx, .cells el l) :: H) (nx + 1) σ τ w).still.Le (ctxOf E2 H nx σ τ w).still :=
    ⟨fun _ _ _ h => h, hok2, fun _ _ _ h => h, fun _ _ h => h, fun _ _ _ h => h⟩
  have hs2 : SR E2 ⟨F, H, nx, G⟩ σ τ a w := by
    refine ⟨⟨⟨rfl, rfl, rfl, Nat.le_refl _, fun _ _ _ => rfl, Nat.le_refl _⟩, fun b hb => ⟨fun ⟨id, ho⟩ => hb.2.2 id (hup ho).2, hb.2.1⟩, fun id el' l' h1 => ?_, fun id α el' e enc L h1 => ?_, fun p q b h1 h2 => hs.heap.apart p q b (hup h1).2 (hup h2).2, fun id o h1 => hlt id o h1, hs.heap.slices, fun id o h1 => ⟨fun k hk => ⟨.inl ⟨id, .inr (.inr ⟨_, h1, hk⟩)⟩, ((hs.heap.obj id o (hget _ _ h1)).1 k hk).2⟩, OA.at_mono (hs.heap.obj id o (hget _ _ h1)).2 (fun _ _ => rfl) (Nat.le_refl _) hles⟩⟩, hs.defers, hs.size, fun j d hd => ?_, fun Gx d v hx => ?_, hG⟩
    · obtain ⟨_, c, h2, h3, h4⟩ := hs.heap.cells id el' l' (hget _ _ h1)
      exact ⟨.inl ⟨id, .inl ⟨_, _, h1, rfl⟩⟩, c, h2, h3, fun j d u hd hu => (cut_rep 6 d _ u (all_at (cellsCut_get hH id el' l' h1) hd) (h4 j d u hd hu)).mono hlec⟩
    · obtain ⟨_, xs, h2, h3, h4⟩ := hs.heap.grow id α el' e enc L (hget _ _ h1)
      exact ⟨fun g hg => .inl ⟨id, .inr (.inl ⟨_, _, _, _, _, h1, hg⟩)⟩, xs, h2, h3, fun p x j d u hx hd hu => (h4 p x j d u hx hd hu).mono hles⟩
    · have hj : j ≠ i := by
        rintro rfl
        have hd : lget F j = some d := hd
        rw [hFi] at hd; cases hd
      exact (cut_rep 6 d _ _ (slotsCut_get hF j d hd) (hs.slots j d (by rw [lget_ne _ _ hj]; exact hd))).mono hlec
    · obtain ⟨g1, g2, g3⟩ := hs.ghost Gx d v hx
      refine ⟨g1, g2, g3.mono ⟨fun _ _ _ h => h, hok2, fun id off v hv => ⟨hv.1, ?_, hv.2.2⟩, fun id v hv => ⟨hv.1, ?_, hv.2.2⟩, fun id off v hv => ⟨hv.1, ?_, hv.2.2⟩⟩⟩
      · exact Nat.lt_of_lt_of_le hv.1 (Nat.le_trans g2 hG)
      · exact Nat.lt_of_lt_of_le hv.1.1 (Nat.le_trans g2 hG)
      · exact Nat.lt_of_lt_of_le hv.1.1 (Nat.le_trans g2 hG)
  have hr2 : reps (ctxOf E2 H nx σ τ w) args args' := ⟨hr.1, fun j d u hd hu => (cut_rep 6 d _ u (all_at ha hd) (hr.2 j d u hd hu)).mono hlec⟩
  refine (h.right E2 σ τ a w args' hs2 hr2).mono fun e w' hh => ?_
  obtain ⟨d, s', σ', τ', v, hK, rfl, hs3, hd3, _⟩ := hh
  have hkept0 : w'.heap[σ nx]? = w.heap[σ nx]? := hs3.heap.kept.block _ hsz0 fun ⟨id, ho⟩ => (hup ho).1 (hs.heap.apart id nx _ (hup ho).2 hown0)
  have hmine : ∀ b, E2.mine b → E.mine b := fun b hb => by
    rcases hb with ⟨id, ho⟩ | hb
    · rcases ho with ⟨el', l', h1, rfl⟩ | ⟨α, el', e, enc, L, h1, h2⟩ | ⟨o, h1, h2⟩
      · exact (hs.heap.cells _ _ _ (hget _ _ h1)).1
      · exact (hs.heap.grow _ _ _ _ _ _ (hget _ _ h1)).1 b h2
      · exact ((hs.heap.obj _ _ (hget _ _ h1)).1 b h2).1
    · exact .inr (Nat.le_trans hs.heap.kept.size hb)
  have hnot0 : ∀ b, E2.mine b → b ≠ σ nx := fun b hb he => by
    subst he
    rcases hb with ⟨id, ho⟩ | hb
    · exact (hup ho).1 (hs.heap.apart id nx _ (hup ho).2 hown0)
    · have : w.heap.size ≤ σ nx := hb
      omega
  have hminO : ∀ {id b}, owned s'.H σ' τ' id b → E2.mine b := fun {id b} ho => by
    rcases ho with ⟨el', l', h1, rfl⟩ | ⟨α, el', e, enc, L, h1, h2⟩ | ⟨o, h1, h2⟩
    · exact (hs3.heap.cells _ _ _ h1).1
    · exact (hs3.heap.grow _ _ _ _ _ _ h1).1 b h2
    · exact ((hs3.heap.obj _ _ h1).1 b h2).1
  have hoN : ∀ id b, owned ((s'.nx, .cells el l) :: s'.H) (setN σ' s'.nx (σ nx)) τ' id b → (id = s'.nx ∧ b = σ nx) ∨ (id ≠ s'.nx ∧ owned s'.H σ' τ' id b) := by
    intro id b ho
    by_cases hi : id = s'.nx
    · subst hi
      refine .inl ⟨rfl, ?_⟩
      rcases ho with ⟨el', l', h1, h2⟩ | ⟨α, el', e, enc, L, h1, h2⟩ | ⟨o, h1, h2⟩
      · simpa [setN] using h2
      · rw [lget_same] at h1; cases h1
      · rw [lget_same] at h1; cases h1
    · refine .inr ⟨hi, ?_⟩
      rcases ho with ⟨el', l', h1, h2⟩ | ⟨α, el', e, enc, L, h1, h2⟩ | ⟨o, h1, h2⟩
      · rw [lget_ne _ _ hi] at h1; exact .inl ⟨_, _, h1, by simpa [setN, hi] using h2⟩
      · rw [lget_ne _ _ hi] at h1; exact .inr (.inl ⟨_, _, _, _, _, h1, h2⟩)
      · rw [lget_ne _ _ hi] at h1; exact .inr (.inr ⟨_, h1, by simpa [setN, hi] using h2⟩)
  have hok3 : ∀ b, (ctxOf E2 s'.H s'.nx σ' τ' w').ok b → (ctxOf E ((s'.nx, .cells el l) :: s'.H) (s'.nx + 1) (setN σ' s'.nx (σ nx)) τ' w').ok b := fun b hb => by
    refine ⟨?_, hb.2.1, fun id ho => ?_⟩
    · rcases hb.1 with hb1 | hb1
      · exact hb1.1
      · exact .inr (hmine b hb1)
    · rcases hoN id b ho with ⟨_, rfl⟩ | ⟨_, h1⟩
      · rcases hb.1 with hb1 | hb1
        · exact hb1.2.2 nx hown0
        · exact hnot0 _ hb1 rfl
      · exact hb.2.2 id h1
  have hle3 : (ctxOf E2 s'.H s'.nx σ' τ' w').Le (ctxOf E ((s'.nx, .cells el l) :: s'.H) (s'.nx + 1) (setN σ' s'.nx (σ nx)) τ' w') := by
    refine ⟨fun _ _ _ h => h, hok3, fun id off v hv => ⟨Nat.lt_succ_of_lt hv.1, ?_⟩, fun id v hv => ⟨Nat.lt_succ_of_lt hv.1, hv.2⟩, fun id off v hv => ⟨Nat.lt_succ_of_lt hv.1, hv.2⟩⟩
    have : id ≠ s'.nx := by have := hv.1; omega
    simpa [setN, this] using hv.2
  have hσ0 : ∀ off, (ctxOf E ((s'.nx, .cells el l) :: s'.H) (s'.nx + 1) (setN σ' s'.nx (σ nx)) τ' w').loc s'.nx off (.pointer (some ⟨σ nx, off, none⟩)) := fun off => ⟨Nat.lt_succ_self _, by simp [setN]⟩
  refine ⟨d, _, setN σ' s'.nx (σ nx), τ', v, hK, rfl, ⟨⟨⟨hs3.heap.kept.os.trans hs.heap.kept.os, hs3.heap.kept.tape.trans hs.heap.kept.tape, hs3.heap.kept.output.trans hs.heap.kept.output, Nat.le_trans hs.heap.kept.size hs3.heap.kept.size, fun k hk hnk => ?_, Nat.le_trans hs.heap.kept.drawn hs3.heap.kept.drawn⟩, hs.heap.few, fun id el' l' h1 => ?_, fun id α el' e enc L h1 => ?_, fun p q b h1 h2 => ?_, fun id o h1 => ?_, hs3.heap.slices, fun id o h1 => ?_⟩, hs.defers, hs.size, fun j d hd => ?_, fun Gx d v hx => ?_, ?_⟩, hd3.mono hle3, fun hg => by cases hg⟩
  · refine (hs3.heap.kept.block k (Nat.lt_of_lt_of_le hk hs.heap.kept.size) fun hk2 => ?_).trans (hs.heap.kept.block k hk hnk)
    rcases hmine k (.inl hk2) with h1 | h1
    · exact hnk h1
    · omega
  · by_cases hi : id = s'.nx
    · subst hi
      rw [lget_same] at h1
      injection h1 with h1; injection h1 with h1 h2; subst h1 h2
      have e1 : setN σ' s'.nx (σ nx) s'.nx = σ nx := by simp [setN]
      rw [e1]
      exact ⟨hmine0, c0, hkept0.trans hc0, hcs0, fun j d u hd hu => flat_rep 1 d u (all_at hl hd) (hcr0 j d u hd hu)⟩
    · rw [lget_ne _ _ hi] at h1
      obtain ⟨q1, c, q2, q3, q4⟩ := hs3.heap.cells id el' l' h1
      have e1 : setN σ' s'.nx (σ nx) id = σ' id := by simp [setN, hi]
      rw [e1]
      exact ⟨hmine _ q1, c, q2, q3, fun j d u hd hu => (q4 j d u hd hu).mono hle3⟩
  · have hi : id ≠ s'.nx := by rintro rfl; rw [lget_same] at h1; cases h1
    rw [lget_ne _ _ hi] at h1
    obtain ⟨q1, xs, q2, q3, q4⟩ := hs3.heap.grow id α el' e enc L h1
    exact ⟨fun g hg => hmine g (q1 g hg), xs, q2, q3, fun p x j d u hx hd hu => (q4 p x j d u hx hd hu).mono hle3.still⟩
  · rcases hoN p b h1 with ⟨h3, h4⟩ | ⟨h3, h4⟩ <;> rcases hoN q b h2 with ⟨h5, h6⟩ | ⟨h5, h6⟩
    · rw [h3, h5]
    · exact absurd h4 (hnot0 b (hminO h6))
    · exact absurd h6 (hnot0 b (hminO h4))
    · exact hs3.heap.apart p q b h4 h6
  · by_cases hi : id = s'.nx
    · subst hi; exact Nat.lt_succ_self _
    · rw [lget_ne _ _ hi] at h1; exact Nat.lt_succ_of_lt (hs3.heap.below id o h1)
  · have hi : id ≠ s'.nx := by rintro rfl; rw [lget_same] at h1; cases h1
    rw [lget_ne _ _ hi] at h1
    obtain ⟨q1, q2⟩ := hs3.heap.obj id o h1
    have e1 : setN σ' s'.nx (σ nx) id = σ' id := by simp [setN, hi]
    rw [e1]
    exact ⟨fun k hk => ⟨hmine _ (q1 k hk).1, (q1 k hk).2⟩, OA.at_mono q2 (fun _ _ => rfl) (Nat.le_refl _) hle3.still⟩
  · by_cases hj : j = i
    · subst hj
      rw [lget_same] at hd
      injection hd with hd; subst hd
      have := hs.slots j (.loc nx off) (lget_same _ _ _)
      cases this with
      | loc hh =>
        obtain ⟨_, hh⟩ := hh
        rw [hh]
        exact .loc (hσ0 off)
    · rw [lget_ne _ _ hj] at hd
      exact (hs3.slots j d hd).mono hle3
  · obtain ⟨g1, g2, g3⟩ := hs3.ghost Gx d v hx
    exact ⟨g1, g2, g3.mono (hle3.only Gx)⟩
  · exact Nat.le_succ_of_le hs3.room
end

/-! ### Objects that stay as they are -/
def hiR (m : Nat) (r : List (Nat × Nat)) : Bool := r.all fun p => Nat.ble m p.1 && Nat.ble m p.2
theorem hiR_ren {m : Nat} : ∀ {r : List (Nat × Nat)}, hiR m r = true → ∀ i, i < m → renOf r i = i ∧ findBack r i = none
  | [], _, _, _ => ⟨rfl, rfl⟩
  | (t, u) :: r, h, i, hi => by
    simp only [hiR, List.all_cons, Bool.and_eq_true] at h
    obtain ⟨⟨h1, h2⟩, h3⟩ := h
    have h1 := Nat.le_of_ble_eq_true h1
    have h2 := Nat.le_of_ble_eq_true h2
    obtain ⟨g1, g2⟩ := hiR_ren (r := r) h3 i hi
    have e1 : Nat.beq t i = false := by
      cases hb : Nat.beq t i with
      | false => rfl
      | true => have := Nat.eq_of_beq_eq_true hb; omega
    have e2 : Nat.beq u i = false := by
      cases hb : Nat.beq u i with
      | false => rfl
      | true => have := Nat.eq_of_beq_eq_true hb; omega
    exact ⟨by rw [renOf, e1]; exact g1, by rw [findBack, e2]; exact g2⟩
theorem hiR_back {m n : Nat} {r : List (Nat × Nat)} (h : hiR m r = true) (hn : m ≤ n) (i : Nat) (hi : i < m) : backOf r n i = some i := by
  obtain ⟨h1, h2⟩ := hiR_ren h i hi
  unfold backOf okBack
  rw [h2]
  simp only [h1, Nat.beq_refl]
  rw [show Nat.blt i n = true from (Nat.blt_eq.symm ▸ (by omega : i < n))]
theorem renD_self {m n : Nat} {r : List (Nat × Nat)} (h : hiR m r = true) (hn : m ≤ n) : ∀ (k : Nat) (d : D), cutOk k m d = true → renD k r n d = d
  | 0, d, hd => by simp [cutOk] at hd
  | k + 1, d, hd => by
    have ih := renD_self h hn k
    have map1 : ∀ l : List D, l.all (cutOk k m) = true → l.map (renD k r n) = l := fun l hl => by
      have : l.map (renD k r n) = l.map _root_.id := List.map_congr_left fun x hx => ih x (List.all_eq_true.1 hl x hx)
      rw [this, List.map_id]
    have hb := hiR_back h hn
    cases d with
    | v v => rfl
    | agg l => rw [renD, map1 l (by simpa [cutOk] using hd)]
    | tup l => rw [renD, map1 l (by simpa [cutOk] using hd)]
    | rows α e enc L => rfl
    | lit e L =>
      have hL : (L.map fun l => l.map (renD k r n)) = L := by
        have hd : (L.all fun l => l.all (cutOk k m)) = true := hd
        have : (L.map fun l => l.map (renD k r n)) = L.map _root_.id := List.map_congr_left fun x hx => map1 x (List.all_eq_true.1 hd x hx)
        rw [this, List.map_id]
      rw [renD, hL]
    | emp => rfl
    | fp l => rw [renD, map1 l (by simpa [cutOk] using hd)]
    | loc id off => rw [renD, hb id (Nat.blt_eq ▸ hd : _ < _)]
    | grow id => rw [renD, hb id (Nat.blt_eq ▸ hd : _ < _)]
    | op id e i off => rw [renD, hb id (Nat.blt_eq ▸ hd : _ < _)]
    | win id e lo q => rw [renD, hb id (Nat.blt_eq ▸ hd : _ < _)]
    | cut id q => rw [renD, hb id (Nat.blt_eq ▸ hd : _ < _)]
    | fn f a b =>
      simp only [cutOk, Bool.and_eq_true] at hd
      rw [renD, map1 a hd.1, map1 b hd.2]
    | iface t d => rw [renD, ih d (by simpa [cutOk] using hd)]
    | mapr id => rw [renD, hb id (Nat.blt_eq ▸ hd : _ < _)]
    | sp A => rfl
    | junk => rfl
theorem tellsL_self {m n : Nat} {r : List (Nat × Nat)} {z : List Nat} (h : hiR m r = true) (hn : m ≤ n) : ∀ l : List D, l.all (cutOk 6 m) = true → tellsL r z n l l
  | [], _ => trivial
  | d :: l, hl => by
    simp only [List.all_cons, Bool.and_eq_true] at hl
    refine ⟨.inl ?_, tellsL_self h hn l hl.2⟩
    rw [renD_self h hn 6 d hl.1]
    exact DLe.refl _
def freshB : List (Nat × LO) → Bool
  | [] => true
  | p :: r => match lget r p.1 with
    | some _ => false
    | none => freshB r
theorem lget_mem {W : List (Nat × LO)} : ∀ {i : Nat} {o : LO}, (i, o) ∈ W → ∃ o', lget W i = some o' := by
  induction W with
  | nil => intro _ _ h; cases h
  | cons q W ih =>
    intro i o h
    obtain ⟨j, o'⟩ := q
    by_cases hij : i = j
    · subst hij; exact ⟨_, lget_same _ _ _⟩
    · rw [lget_ne _ _ hij]
      rcases List.mem_cons.1 h with q1 | q1
      · injection q1 with e1 e2; exact absurd e1 hij
      · exact ih q1
/-- The objects of a list are told by a state that holds them. -/
theorem coverH_self {m n : Nat} {r : List (Nat × Nat)} {s : St} {W : List (Nat × LO)} (h : hiR m r = true) (hn : Nat.ble m n = true) (hW : cellsCut m W = true) (hI : W.all (fun p => Nat.blt p.1 m) = true) (hd : freshB W = true) (hs : ∀ i, i < m → lget s.H i = lget W i) : coverH r [] s n W := by
  have hn := Nat.le_of_ble_eq_true hn
  have key : ∀ W' : List (Nat × LO), cellsCut m W' = true → W'.all (fun p => Nat.blt p.1 m) = true → (∀ p, p ∈ W' → lget W p.1 = some p.2) → coverH r [] s n W' := by
    intro W'
    induction W' with
    | nil => intros; trivial
    | cons p W' ih =>
      intro h1 h2 h3
      obtain ⟨i, o⟩ := p
      simp only [List.all_cons, Bool.and_eq_true] at h2
      have hi : i < m := (Nat.blt_eq ▸ h2.1 : _ < _)
      obtain ⟨e1, _⟩ := hiR_ren h i hi
      refine ⟨?_, ih (by cases o <;> first | exact h1 | (simp only [cellsCut, Bool.and_eq_true] at h1; exact h1.2)) h2.2 fun q hq => h3 q (.tail _ hq)⟩
      show backOf r n (renOf r i) = some i ∧ _
      rw [e1, hs i hi, h3 (i, o) (.head _)]
      refine ⟨hiR_back h hn i hi, ?_⟩
      cases o with
      | cells el l =>
        simp only [cellsCut, Bool.and_eq_true] at h1
        exact ⟨rfl, tellsL_self h hn l h1.1⟩
      | _ => rfl
  refine key W hW hI fun p hp => ?_
  obtain ⟨i, o⟩ := p
  clear key hW hI hs
  induction W with
  | nil => cases hp
  | cons q W ih =>
    obtain ⟨j, o'⟩ := q
    rw [freshB] at hd
    split at hd
    · cases hd
    · rename_i hnone
      rcases List.mem_cons.1 hp with q1 | q1
      · injection q1 with e1 e2; subst e1 e2; exact lget_same _ _ _
      · have hij : i ≠ j := fun e => by
          obtain ⟨o2, h2⟩ := lget_mem q1
          rw [e] at h2
          have hnone : lget W j = none := hnone
          rw [hnone] at h2; cases h2
        rw [lget_ne _ _ hij]
        exact ih hd q1
end Go.Proofs.Ytcbpdjikdohegaa.V
