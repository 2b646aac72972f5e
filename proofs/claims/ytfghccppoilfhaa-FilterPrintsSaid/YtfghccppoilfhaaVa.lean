/-
  Symbolic data and what they stand for in a world: part 1 of a weakest precondition that unfolds by itself. No condition.
-/
import Derived.WalkKit
import Derived.ProofKit
import Derived.Below
import Derived.Laws.AppendOwn
import Derived.Test.YtfghccppoilfhaaVd0
namespace Go.Proofs.Ytfghccppoilfhaa.V
open Go.RowKit

structure Ctx where
  w : World
  ok : Nat → Prop
  loc : Nat → Nat → Value → Prop
  grow : Nat → Value → Prop
  op : Nat → Nat → Value → Prop

def Ctx.still (C : Ctx) : Ctx := ⟨C.w, C.ok, fun _ _ _ => False, fun _ _ => False, fun _ _ _ => False⟩

structure Ctx.Le (C C' : Ctx) : Prop where
  block : ∀ b o, C.ok b → C.w.heap[b]? = some o → C'.w.heap[b]? = some o
  ok : ∀ b, C.ok b → C'.ok b
  loc : ∀ id off v, C.loc id off v → C'.loc id off v
  grow : ∀ id v, C.grow id v → C'.grow id v
  op : ∀ id off v, C.op id off v → C'.op id off v

theorem Ctx.Le.cell {C C' : Ctx} (h : C.Le C') (b o : Nat) (v : Value) (hk : C.ok b) (hv : C.w.cell? ⟨b, o, none⟩ = some v) : C'.w.cell? ⟨b, o, none⟩ = some v := by
  cases hq : C.w.heap[b]? with
  | none => simp [World.cell?, hq] at hv
  | some x => exact (World.cell?_of_block (w := C.w) ((h.block b x hk hq).trans hq.symm)).trans hv
theorem Ctx.Le.refl (C : Ctx) : C.Le C := ⟨fun _ _ _ h => h, fun _ h => h, fun _ _ _ h => h, fun _ _ h => h, fun _ _ _ h => h⟩
theorem Ctx.Le.trans {A B C : Ctx} (h : A.Le B) (k : B.Le C) : A.Le C :=
  ⟨fun b o h1 h2 => k.block b o (h.ok b h1) (h.block b o h1 h2), fun b h1 => k.ok b (h.ok b h1), fun i o v h1 => k.loc _ _ _ (h.loc _ _ _ h1), fun i v h1 => k.grow _ _ (h.grow _ _ h1), fun i o v h1 => k.op _ _ _ (h.op _ _ _ h1)⟩
theorem Ctx.Le.still {C C' : Ctx} (h : C.Le C') : C.still.Le C'.still := ⟨h.block, h.ok, fun _ _ _ h => h, fun _ _ h => h, fun _ _ _ h => h⟩
theorem Ctx.still_le (C : Ctx) : C.still.Le C := ⟨fun _ _ _ h => h, fun _ h => h, fun _ _ _ h => h.elim, fun _ _ h => h.elim, fun _ _ _ h => h.elim⟩

structure SepA where
  R : Ctx → Nat → (Nat → Prop) → Prop
  mono : ∀ {C C' : Ctx} {b : Nat} {S : Nat → Prop}, R C.still b S → (∀ k o, S k → C.w.heap[k]? = some o → C'.w.heap[k]? = some o) → C.still.Le C'.still → R C'.still b S

inductive D : Type 1 where
  | v (v : Value)
  | agg (l : List D)
  | tup (l : List D)
  | rows (α : Type) (e : Nat) (enc : α → List D) (L : List α)
  | lit (e : Nat) (L : List (List D))
  | emp
  | fp (l : List D)
  | loc (id off : Nat)
  | grow (id : Nat)
  | op (id e i off : Nat)
  | win (id e lo n : Nat)
  | cut (id n : Nat)
  | cap (id n c : Nat)
  | asl (id off n : Nat)
  | fn (f : FuncId) (first captured : List D)
  | iface (t : TypeId) (d : D)
  | mapr (id : Nat)
  | sp (A : SepA)
  | junk

inductive Rep : Ctx → D → Value → Prop where
  | v {C : Ctx} {v : Value} : Rep C (.v v) v
  | agg {C : Ctx} {l : List D} {c : Array Value} (hs : c.size = l.length) (h : ∀ (j : Nat) d u, l[j]? = some d → c[j]? = some u → Rep C d u) : Rep C (.agg l) (.agg c)
  | tup {C : Ctx} {l : List D} {c : Array Value} (hs : c.size = l.length) (h : ∀ (j : Nat) d u, l[j]? = some d → c[j]? = some u → Rep C d u) : Rep C (.tup l) (.tuple c)
  | rows {C : Ctx} {α : Type} {e : Nat} {enc : α → List D} {L : List α} {p : Option Addr} {c : Nat} (b o : Nat) (g : Nat → Nat → Value) (hc : L.length ≤ c) (hp : L ≠ [] → p = some ⟨b, o, none⟩ ∧ C.ok b)
      (hl : ∀ (i : Nat) x, L[i]? = some x → (enc x).length = e) (hcell : ∀ (i : Nat) x (j : Nat) d, L[i]? = some x → (enc x)[j]? = some d → C.w.cell? ⟨b, o + i * e + j, none⟩ = some (g i j))
      (hrep : ∀ (i : Nat) x (j : Nat) d, L[i]? = some x → (enc x)[j]? = some d → Rep C.still d (g i j)) : Rep C (.rows α e enc L) (.slice p L.length c)
  | lit {C : Ctx} {e : Nat} {L : List (List D)} {p : Option Addr} {c : Nat} (b o : Nat) (g : Nat → Nat → Value) (hc : L.length = c) (hp : L ≠ [] → p = some ⟨b, o, none⟩ ∧ C.ok b)
      (hl : ∀ (i : Nat) x, L[i]? = some x → x.length = e) (hcell : ∀ (i : Nat) (x : List D) (j : Nat) d, L[i]? = some x → x[j]? = some d → C.w.cell? ⟨b, o + i * e + j, none⟩ = some (g i j))
      (hrep : ∀ (i : Nat) (x : List D) (j : Nat) d, L[i]? = some x → x[j]? = some d → Rep C d (g i j)) : Rep C (.lit e L) (.slice p L.length c)
  | emp {C : Ctx} {b : Nat} : Rep C .emp (.slice (some ⟨b, 0, none⟩) 0 0)
  | fp {C : Ctx} {l : List D} {b o : Nat} (g : Nat → Value) (hk : C.ok b) (hcell : ∀ (j : Nat) d, l[j]? = some d → C.w.cell? ⟨b, o + j, none⟩ = some (g j))
      (hrep : ∀ (j : Nat) d, l[j]? = some d → Rep C d (g j)) : Rep C (.fp l) (.pointer (some ⟨b, o, none⟩))
  | loc {C : Ctx} {id off : Nat} {v : Value} (h : C.loc id off v) : Rep C (.loc id off) v
  | grow {C : Ctx} {id : Nat} {v : Value} (h : C.grow id v) : Rep C (.grow id) v
  | op {C : Ctx} {id e i off : Nat} {v : Value} (h : C.op id (i * e + off) v) : Rep C (.op id e i off) v
  | win {C : Ctx} {id e lo n c : Nat} {p : Option Addr} (h : 0 < n → C.op id (lo * e) (.pointer p)) (hc : n ≤ c) : Rep C (.win id e lo n) (.slice p n c)
  | cut {C : Ctx} {id n m c : Nat} {p : Option Addr} (h : C.grow id (.slice p m c)) (hn : n ≤ m) : Rep C (.cut id n) (.slice p n c)
  | cap {C : Ctx} {id n k m c : Nat} {p : Option Addr} (h : C.grow id (.slice p m c)) (hn : n ≤ m) : Rep C (.cap id n k) (.slice p n k)
  | asl {C : Ctx} {id off n : Nat} {p : Option Addr} (h : C.loc id off (.pointer p)) : Rep C (.asl id off n) (.slice p n n)
  | fn {C : Ctx} {f : FuncId} {l k : List D} {a c : Array Value} (hs : a.size = l.length) (ht : c.size = k.length) (h : ∀ (j : Nat) d u, l[j]? = some d → a[j]? = some u → Rep C d u)
      (h' : ∀ (j : Nat) d u, k[j]? = some d → c[j]? = some u → Rep C d u) : Rep C (.fn f l k) (.func (.func f) a c)
  | iface {C : Ctx} {t : TypeId} {d : D} {v : Value} (h : Rep C d v) : Rep C (.iface t d) (.iface t v)
  | mapr {C : Ctx} {id b : Nat} (h : C.loc id 0 (.pointer (some ⟨b, 0, none⟩))) : Rep C (.mapr id) (.map (some b))
  | sp {C : Ctx} {A : SepA} {b : Nat} (S : Nat → Prop) (hA : A.R C.still b S) (hS : ∀ k, S k → C.ok k) : Rep C (.sp A) (.pointer (some ⟨b, 0, none⟩))
  | junk {C : Ctx} {v : Value} : Rep C .junk v

def Ctx.only (C : Ctx) (G : List Nat × Nat) : Ctx := ⟨C.w, C.ok, fun id off v => id < G.2 ∧ C.loc id off v, fun id v => (id < G.2 ∧ id ∈ G.1) ∧ C.grow id v, fun id off v => (id < G.2 ∧ id ∈ G.1) ∧ C.op id off v⟩
theorem Ctx.Le.only {C C' : Ctx} (h : C.Le C') (G : List Nat × Nat) : (C.only G).Le (C'.only G) := ⟨h.block, h.ok, fun id off v hv => ⟨hv.1, h.loc _ _ _ hv.2⟩, fun id v hv => ⟨hv.1, h.grow _ _ hv.2⟩, fun id off v hv => ⟨hv.1, h.op _ _ _ hv.2⟩⟩
theorem Ctx.only_le (C : Ctx) (G : List Nat × Nat) : (C.only G).Le C := ⟨fun _ _ _ h => h, fun _ h => h, fun _ _ _ h => h.2, fun _ _ h => h.2, fun _ _ _ h => h.2⟩

theorem Rep.mono {C : Ctx} {d : D} {v : Value} (h : Rep C d v) : ∀ {C' : Ctx}, C.Le C' → Rep C' d v := by
  induction h with
  | v => intro _ _; exact .v
  | agg hs _ ih => intro _ hle; exact .agg hs fun j d u a b => ih j d u a b hle
  | tup hs _ ih => intro _ hle; exact .tup hs fun j d u a b => ih j d u a b hle
  | rows b o g hc hp hl hcell _ ih =>
    intro _ hle
    refine .rows b o g hc (fun hn => ⟨(hp hn).1, hle.ok _ (hp hn).2⟩) hl (fun i x j d hx hd => hle.cell _ _ _ ?_ (hcell i x j d hx hd)) fun i x j d hx hd => ih i x j d hx hd hle.still
    exact (hp (fun he => by rw [he] at hx; simp at hx)).2
  | lit b o g hc hp hl hcell _ ih =>
    intro _ hle
    refine .lit b o g hc (fun hn => ⟨(hp hn).1, hle.ok _ (hp hn).2⟩) hl (fun i x j d hx hd => hle.cell _ _ _ ?_ (hcell i x j d hx hd)) fun i x j d hx hd => ih i x j d hx hd hle
    exact (hp (fun he => by rw [he] at hx; simp at hx)).2
  | emp => intro _ _; exact .emp
  | fp g hk hcell _ ih => intro _ hle; exact .fp g (hle.ok _ hk) (fun j d hd => hle.cell _ _ _ hk (hcell j d hd)) fun j d hd => ih j d hd hle
  | loc h => intro _ hle; exact .loc (hle.loc _ _ _ h)
  | grow h => intro _ hle; exact .grow (hle.grow _ _ h)
  | op h => intro _ hle; exact .op (hle.op _ _ _ h)
  | win h hc => intro _ hle; exact .win (fun hn => hle.op _ _ _ (h hn)) hc
  | cut h hn => intro _ hle; exact .cut (hle.grow _ _ h) hn
  | cap h hn => intro _ hle; exact .cap (hle.grow _ _ h) hn
  | asl h => intro _ hle; exact .asl (hle.loc _ _ _ h)
  | fn hs ht _ _ ih ih' => intro _ hle; exact .fn hs ht (fun j d u a b => ih j d u a b hle) fun j d u a b => ih' j d u a b hle
  | iface _ ih => intro _ hle; exact .iface (ih hle)
  | mapr h => intro _ hle; exact .mapr (hle.loc _ _ _ h)
  | sp S hA hS => intro _ hle; exact .sp S (SepA.mono _ hA (fun k o hk => hle.block k o (hS k hk)) hle.still) fun k hk => hle.ok k (hS k hk)
  | junk => intro _ _; exact .junk

/-! ### Other numbers -/
def renOf : List (Nat × Nat) → Nat → Nat
  | [], i => i
  | (t, s) :: r, i => match Nat.beq t i with
    | true => s
    | false => renOf r i
def findBack : List (Nat × Nat) → Nat → Option Nat
  | [], _ => none
  | (t, s) :: r, i => match Nat.beq s i with
    | true => some t
    | false => findBack r i
def okBack (r : List (Nat × Nat)) (n i id : Nat) : Option Nat := match Nat.beq (renOf r i) id, Nat.blt i n with
  | true, true => some i
  | _, _ => none
def backOf (r : List (Nat × Nat)) (n id : Nat) : Option Nat := match findBack r id with
  | some i => okBack r n i id
  | none => okBack r n id id
theorem okBack_spec {r : List (Nat × Nat)} {n i id j : Nat} (h : okBack r n i id = some j) : renOf r j = id ∧ j < n := by
  unfold okBack at h
  split at h
  · rename_i h1 h2
    injection h with h; subst h
    exact ⟨Nat.eq_of_beq_eq_true h1, (Nat.blt_eq ▸ h2 : _ < _)⟩
  · cases h
theorem backOf_spec {r : List (Nat × Nat)} {n id j : Nat} (h : backOf r n id = some j) : renOf r j = id ∧ j < n := by
  unfold backOf at h
  split at h <;> exact okBack_spec h

def Ctx.ren (C : Ctx) (r : List (Nat × Nat)) (n : Nat) : Ctx := ⟨C.w, C.ok, fun i off v => i < n ∧ C.loc (renOf r i) off v, fun i v => i < n ∧ C.grow (renOf r i) v, fun i off v => i < n ∧ C.op (renOf r i) off v⟩

def renD : Nat → List (Nat × Nat) → Nat → D → D
  | 0, _, _, _ => .junk
  | k + 1, r, n, d => match d with
    | .v v => .v v
    | .agg l => .agg (l.map (renD k r n))
    | .tup l => .tup (l.map (renD k r n))
    | .rows α e enc L => .rows α e enc L
    | .lit e L => .lit e (L.map fun l => l.map (renD k r n))
    | .emp => .emp
    | .fp l => .fp (l.map (renD k r n))
    | .loc id off => match backOf r n id with
      | some i => .loc i off
      | none => .junk
    | .grow id => match backOf r n id with
      | some i => .grow i
      | none => .junk
    | .op id e i off => match backOf r n id with
      | some j => .op j e i off
      | none => .junk
    | .win id e lo m => match backOf r n id with
      | some j => .win j e lo m
      | none => .junk
    | .cut id m => match backOf r n id with
      | some j => .cut j m
      | none => .junk
    | .cap id m c => match backOf r n id with
      | some j => .cap j m c
      | none => .junk
    | .asl id off m => match backOf r n id with
      | some j => .asl j off m
      | none => .junk
    | .fn f a b => .fn f (a.map (renD k r n)) (b.map (renD k r n))
    | .iface t d => .iface t (renD k r n d)
    | .mapr id => match backOf r n id with
      | some i => .mapr i
      | none => .junk
    | .sp A => .sp A
    | .junk => .junk

theorem ren_rep {r : List (Nat × Nat)} {n : Nat} : ∀ (k : Nat) (d : D) (C : Ctx) (v : Value), Rep C d v → Rep (C.ren r n) (renD k r n d) v := by
  intro k
  induction k with
  | zero => intro d C v _; exact .junk
  | succ k ih =>
    intro d C v hr
    have mapped : ∀ (l : List D) (c : Array Value), (∀ (j : Nat) d u, l[j]? = some d → c[j]? = some u → Rep C d u) → ∀ (j : Nat) d u, (l.map (renD k r n))[j]? = some d → c[j]? = some u → Rep (C.ren r n) d u := by
      intro l c hh j d u hd hu
      rw [List.getElem?_map] at hd
      cases hq : l[j]? with
      | none => rw [hq] at hd; cases hd
      | some x =>
        rw [hq] at hd
        simp only [Option.map_some, Option.some.injEq] at hd
        subst hd
        exact ih x C u (hh j x u hq hu)
    cases hr with
    | v => exact .v
    | agg hs hh => exact .agg (by simpa using hs) (mapped _ _ hh)
    | tup hs hh => exact .tup (by simpa using hs) (mapped _ _ hh)
    | rows b o g hc hp hl hcell hrep => exact .rows b o g hc hp hl hcell hrep
    | lit b o g hc hp hl hcell hrep =>
      rename_i e L p c
      have hlen : (L.map fun l => l.map (renD k r n)).length = L.length := by simp
      simp only [renD]
      rw [← hlen]
      refine .lit b o g (by rw [hlen]; exact hc) (fun hn => hp (fun he => hn (by rw [he]; rfl))) (fun i x hx => ?_) (fun i x j d hx hd => ?_) (fun i x j d hx hd => ?_)
      all_goals
        rw [List.getElem?_map] at hx
        cases hq : L[i]? with
        | none => rw [hq] at hx; cases hx
        | some y =>
          rw [hq] at hx
          simp only [Option.map_some, Option.some.injEq] at hx
          subst hx
          first
            | (rw [List.length_map]; exact hl i y hq)
            | (rw [List.getElem?_map] at hd
               cases hq2 : y[j]? with
               | none => rw [hq2] at hd; cases hd
               | some z =>
                 rw [hq2] at hd
                 simp only [Option.map_some, Option.some.injEq] at hd
                 subst hd
                 first
                   | exact hcell i y j z hq hq2
                   | exact ih z C _ (hrep i y j z hq hq2))
    | emp => exact .emp
    | fp g hk hcell hrep =>
      refine .fp g hk (fun j d hd => ?_) (fun j d hd => ?_)
      all_goals
        rw [List.getElem?_map] at hd
        rename_i l b o
        cases hq : l[j]? with
        | none => rw [hq] at hd; cases hd
        | some z =>
          rw [hq] at hd
          simp only [Option.map_some, Option.some.injEq] at hd
          subst hd
          first
            | exact hcell j z hq
            | exact ih z C _ (hrep j z hq)
    | loc hh =>
      simp only [renD]
      split
      · rename_i i hi
        obtain ⟨h1, h2⟩ := backOf_spec hi
        exact .loc ⟨h2, by rw [h1]; exact hh⟩
      · exact .junk
    | grow hh =>
      simp only [renD]
      split
      · rename_i i hi
        obtain ⟨h1, h2⟩ := backOf_spec hi
        exact .grow ⟨h2, by rw [h1]; exact hh⟩
      · exact .junk
    | op hh =>
      simp only [renD]
      split
      · rename_i i hi
        obtain ⟨h1, h2⟩ := backOf_spec hi
        exact .op ⟨h2, by rw [h1]; exact hh⟩
      · exact .junk
    | win hh hc =>
      simp only [renD]
      split
      · rename_i i hi
        obtain ⟨h1, h2⟩ := backOf_spec hi
        exact .win (fun hn => ⟨h2, by rw [h1]; exact hh hn⟩) hc
      · exact .junk
    | cut hh hn =>
      simp only [renD]
      split
      · rename_i i hi
        obtain ⟨h1, h2⟩ := backOf_spec hi
        exact .cut ⟨h2, by rw [h1]; exact hh⟩ hn
      · exact .junk
    | cap hh hn =>
      simp only [renD]
      split
      · rename_i i hi
        obtain ⟨h1, h2⟩ := backOf_spec hi
        exact .cap ⟨h2, by rw [h1]; exact hh⟩ hn
      · exact .junk
    | asl hh =>
      simp only [renD]
      split
      · rename_i i hi
        obtain ⟨h1, h2⟩ := backOf_spec hi
        exact .asl ⟨h2, by rw [h1]; exact hh⟩
      · exact .junk
    | fn hs ht hh hh' => exact .fn (by simpa using hs) (by simpa using ht) (mapped _ _ hh) (mapped _ _ hh')
    | iface hh => exact .iface (ih _ C _ hh)
    | mapr hh =>
      simp only [renD]
      split
      · rename_i i hi
        obtain ⟨h1, h2⟩ := backOf_spec hi
        exact .mapr ⟨h2, by rw [h1]; exact hh⟩
      · exact .junk
    | sp S hA hS => exact .sp S hA hS
    | junk => exact .junk

structure Ctx.Sane (C : Ctx) : Prop where
  loc : ∀ id off v, C.loc id off v → ∃ a, v = .pointer (some a)
  grow : ∀ id v, C.grow id v → ∃ p l c, v = .slice p l c
  op : ∀ id off v, C.op id off v → ∃ a, v = .pointer a

def DLe (d d' : D) : Prop := ∀ C v, Rep C d v → Rep C d' v
theorem DLe.refl (d : D) : DLe d d := fun _ _ h => h
theorem DLe.trans {a b c : D} (h : DLe a b) (k : DLe b c) : DLe a c := fun C v x => k C v (h C v x)
theorem DLe.junk (d : D) : DLe d .junk := fun _ _ _ => .junk
theorem DLe.nil {α : Type} (e : Nat) (enc : α → List D) : DLe (.v (.slice none 0 0)) (.rows α e enc []) := fun C v h => by
  cases h
  exact .rows (L := []) 0 0 (fun _ _ => .nilIface) (Nat.le_refl _) (fun h => absurd rfl h) (fun i x h => by simp at h) (fun i x j d h => by simp at h) (fun i x j d h => by simp at h)
theorem DLe.rows {α : Type} {e : Nat} {enc : α → List D} {L L' : List α} (h : L = L') : DLe (.rows α e enc L) (.rows α e enc L') := h ▸ DLe.refl _

/-! ### Objects of one's own -/

inductive OA where
  | ob (o : Obj)
  | sep (S : Nat → Prop) (A : SepA)
def OA.foot : OA → Nat → Nat → Prop
  | .ob _, b0, b => b = b0
  | .sep S _, _, b => S b
def OA.at : OA → Ctx → Nat → Prop
  | .ob o, C, b => C.w.heap[b]? = some o
  | .sep S A, C, b => A.R C b S
theorem OA.at_le {o : OA} {C C' : Ctx} {b : Nat} (h : o.at C.still b) (hk : ∀ k, o.foot b k → C'.w.heap[k]? = C.w.heap[k]?) (hle : C.still.Le C'.still) : o.at C'.still b := by
  cases o with
  | ob o => exact (hk b rfl).trans h
  | sep S A => exact A.mono h (fun k x hS hx => (hk k hS).trans hx) hle
theorem OA.at_mono {o : OA} {C C' : Ctx} {b : Nat} (h : o.at C.still b) (hk : ∀ k, o.foot b k → C'.w.heap[k]? = C.w.heap[k]?) (_ : C.w.heap.size ≤ C'.w.heap.size) (hle : C.still.Le C'.still) : o.at C'.still b := OA.at_le h hk hle

inductive LO : Type 1 where
  | cells (el : TypeId) (l : List D)
  | grow (α : Type) (el : TypeId) (e : Nat) (enc : α → List D) (L : List α)
  | obj (o : OA)
  | dead

def lget {β : Type 1} : List (Nat × β) → Nat → Option β
  | [], _ => none
  | (k, x) :: r, i => match Nat.beq k i with
    | true => some x
    | false => lget r i

structure St : Type 1 where
  F : List (Nat × D)
  H : List (Nat × LO)
  nx : Nat
  G : List Nat × Nat

def slotD (s : St) (i : Nat) : D := match lget s.F i with
  | some d => d
  | none => .junk

structure Env where
  w : World
  B : Nat → Prop
  K : Nat → Prop
  n : Nat
  X : List Nat × Nat → D → Value → Prop

def Env.mine (E : Env) (b : Nat) : Prop := E.K b ∨ E.w.heap.size ≤ b

def owned (H : List (Nat × LO)) (σ : Nat → Nat) (τ : Nat → Value) (id b : Nat) : Prop :=
  (∃ el l, lget H id = some (.cells el l) ∧ b = σ id) ∨ (∃ α el e enc L, lget H id = some (.grow α el e enc L) ∧ (τ id).ownBlock = some b) ∨ (∃ o, lget H id = some (.obj o) ∧ o.foot (σ id) b)

def ctxOf (E : Env) (H : List (Nat × LO)) (nx : Nat) (σ : Nat → Nat) (τ : Nat → Value) (w : World) : Ctx where
  w := w
  ok := fun b => (E.B b ∨ E.mine b) ∧ b < w.heap.size ∧ ∀ id, ¬ owned H σ τ id b
  loc := fun id off v => id < nx ∧ v = .pointer (some ⟨σ id, off, none⟩)
  grow := fun id v => id < nx ∧ v = τ id
  op := fun id off v => id < nx ∧ v = .pointer (some ⟨(τ id).ownBlock.getD 0, off, none⟩)

def Ctx.cut (C : Ctx) (n : Nat) : Ctx := ⟨C.w, C.ok, fun id off v => id < n ∧ C.loc id off v, fun id v => id < n ∧ C.grow id v, fun id off v => id < n ∧ C.op id off v⟩

def cutOk : Nat → Nat → D → Bool
  | 0, _, _ => false
  | _ + 1, _, .v _ => true
  | _ + 1, _, .rows _ _ _ _ => true
  | _ + 1, _, .emp => true
  | _ + 1, _, .junk => true
  | _ + 1, n, .loc id _ => Nat.blt id n
  | _ + 1, n, .grow id => Nat.blt id n
  | _ + 1, n, .op id _ _ _ => Nat.blt id n
  | _ + 1, n, .win id _ _ _ => Nat.blt id n
  | _ + 1, n, .cut id _ => Nat.blt id n
  | _ + 1, n, .cap id _ _ => Nat.blt id n
  | _ + 1, n, .asl id _ _ => Nat.blt id n
  | k + 1, n, .agg l => l.all (cutOk k n)
  | k + 1, n, .tup l => l.all (cutOk k n)
  | k + 1, n, .fp l => l.all (cutOk k n)
  | k + 1, n, .lit _ L => L.all fun l => l.all (cutOk k n)
  | k + 1, n, .fn _ a b => a.all (cutOk k n) && b.all (cutOk k n)
  | k + 1, n, .iface _ d => cutOk k n d
  | _ + 1, n, .mapr id => Nat.blt id n
  | _ + 1, _, .sp _ => true

theorem all_at {α : Type 1} {l : List α} {f : α → Bool} (h : l.all f = true) {j : Nat} {x : α} (hx : l[j]? = some x) : f x = true :=
  List.all_eq_true.1 h x (List.mem_of_getElem? hx)

theorem cut_rep {n : Nat} : ∀ (k : Nat) (d : D) (C : Ctx) (v : Value), cutOk k n d = true → Rep C d v → Rep (C.cut n) d v := by
  intro k
  induction k with
  | zero => intro d C v h; simp [cutOk] at h
  | succ k ih =>
    intro d C v h hr
    cases hr with
    | v => exact .v
    | agg hs hh => exact .agg hs fun j d u a b => ih d C u (all_at (by simpa [cutOk] using h) a) (hh j d u a b)
    | tup hs hh => exact .tup hs fun j d u a b => ih d C u (all_at (by simpa [cutOk] using h) a) (hh j d u a b)
    | rows b o g hc hp hl hcell hrep => exact .rows b o g hc hp hl hcell hrep
    | lit b o g hc hp hl hcell hrep =>
      simp only [cutOk, List.all_eq_true] at h
      exact .lit b o g hc hp hl hcell fun i x j d hx hd => ih d C _ (h x (List.mem_of_getElem? hx) d (List.mem_of_getElem? hd)) (hrep i x j d hx hd)
    | emp => exact .emp
    | fp g hk hcell hrep => exact .fp g hk hcell fun j d hd => ih d C _ (all_at (by simpa [cutOk] using h) hd) (hrep j d hd)
    | loc hh => exact .loc ⟨(Nat.blt_eq ▸ h : _ < _), hh⟩
    | grow hh => exact .grow ⟨(Nat.blt_eq ▸ h : _ < _), hh⟩
    | op hh => exact .op ⟨(Nat.blt_eq ▸ h : _ < _), hh⟩
    | win hh hc => exact .win (fun hn => ⟨(Nat.blt_eq ▸ h : _ < _), hh hn⟩) hc
    | cut hh hn => exact .cut ⟨(Nat.blt_eq ▸ h : _ < _), hh⟩ hn
    | cap hh hn => exact .cap ⟨(Nat.blt_eq ▸ h : _ < _), hh⟩ hn
    | asl hh => exact .asl ⟨(Nat.blt_eq ▸ h : _ < _), hh⟩
    | fn hs ht hh hh' =>
      simp only [cutOk, List.all_eq_true, Bool.and_eq_true] at h
      exact .fn hs ht (fun j d u a b => ih d C u (h.1 d (List.mem_of_getElem? a)) (hh j d u a b)) fun j d u a b => ih d C u (h.2 d (List.mem_of_getElem? a)) (hh' j d u a b)
    | iface hh => exact .iface (ih _ C _ h hh)
    | mapr hh => exact .mapr ⟨(Nat.blt_eq ▸ h : _ < _), hh⟩
    | sp S hA hS => exact .sp S hA hS
    | junk => exact .junk

structure Kept (E : Env) (w : World) : Prop where
  os : w.os = E.w.os
  tape : w.tape = E.w.tape
  output : w.output = E.w.output
  size : E.w.heap.size ≤ w.heap.size
  block : ∀ k, k < E.w.heap.size → ¬ E.K k → w.heap[k]? = E.w.heap[k]?
  drawn : E.w.drawn ≤ w.drawn

structure HR (E : Env) (H : List (Nat × LO)) (nx : Nat) (σ : Nat → Nat) (τ : Nat → Value) (w : World) : Prop where
  kept : Kept E w
  few : ∀ b, E.B b → ¬ E.K b ∧ b < E.w.heap.size
  cells : ∀ id el l, lget H id = some (.cells el l) → E.mine (σ id) ∧ ∃ c, w.heap[σ id]? = some (.cells c el (0, 0)) ∧ c.size = l.length ∧ ∀ (j : Nat) d u, l[j]? = some d → c[j]? = some u → Rep (ctxOf E H nx σ τ w) d u
  grow : ∀ id α el e enc L, lget H id = some (.grow α el e enc L) → (∀ g, (τ id).ownBlock = some g → E.mine g) ∧ ∃ xs, w.ownsRow 0 el e (τ id) L.length xs ∧ (∀ (i : Nat) x, L[i]? = some x → (enc x).length = e) ∧
    ∀ (i : Nat) x (j : Nat) d u, L[i]? = some x → (enc x)[j]? = some d → xs[i * e + j]? = some u → Rep (ctxOf E H nx σ τ w).still d u
  apart : ∀ i j b, owned H σ τ i b → owned H σ τ j b → i = j
  below : ∀ id o, lget H id = some o → id < nx
  slices : ∀ id, ∃ p l c, τ id = .slice p l c
  obj : ∀ id o, lget H id = some (.obj o) → (∀ k, o.foot (σ id) k → E.mine k ∧ k < w.heap.size) ∧ o.at (ctxOf E H nx σ τ w).still (σ id)

structure SR (E : Env) (s : St) (σ : Nat → Nat) (τ : Nat → Value) (a : Act) (w : World) : Prop where
  heap : HR E s.H s.nx σ τ w
  defers : a.defers = []
  size : a.tmps.size = E.n
  slots : ∀ i d, lget s.F i = some d → Rep (ctxOf E s.H s.nx σ τ w) d (a.tmps.getD i undef)
  ghost : ∀ G d v, E.X G d v → (∀ id, id < G.2 → id ∈ G.1 → id < s.G.2 ∧ id ∈ s.G.1) ∧ G.2 ≤ s.G.2 ∧ Rep ((ctxOf E s.H s.nx σ τ w).only G) d v
  room : s.G.2 ≤ s.nx

theorem SR.ghost_le {E : Env} {s s' : St} {σ σ' : Nat → Nat} {τ τ' : Nat → Value} {a : Act} {w w' : World} (h : SR E s σ τ a w) (hG : s'.G = s.G) (hle : (ctxOf E s.H s.nx σ τ w).Le (ctxOf E s'.H s'.nx σ' τ' w')) :
    ∀ G d v, E.X G d v → (∀ id, id < G.2 → id ∈ G.1 → id < s'.G.2 ∧ id ∈ s'.G.1) ∧ G.2 ≤ s'.G.2 ∧ Rep ((ctxOf E s'.H s'.nx σ' τ' w').only G) d v := fun G d v hx => by
  obtain ⟨h1, h2, h3⟩ := h.ghost G d v hx
  rw [hG]
  exact ⟨h1, h2, h3.mono (hle.only G)⟩

theorem SR.slot {E : Env} {s : St} {σ : Nat → Nat} {τ : Nat → Value} {a : Act} {w : World} (h : SR E s σ τ a w) (i : Nat) : Rep (ctxOf E s.H s.nx σ τ w) (slotD s i) (a.tmps.getD i undef) := by
  unfold slotD
  split
  · rename_i d hd; exact h.slots i d hd
  · exact .junk

theorem owned_lt {E : Env} {H : List (Nat × LO)} {nx : Nat} {σ : Nat → Nat} {τ : Nat → Value} {w : World} (h : HR E H nx σ τ w) {id b : Nat} (ho : owned H σ τ id b) : b < w.heap.size := by
  rcases ho with ⟨el, l, h1, rfl⟩ | ⟨α, el, e, enc, L, h1, h2⟩ | ⟨o, h1, h2⟩
  rotate_left 2
  · exact ((h.obj id o h1).1 b h2).2
  · obtain ⟨_, c, h3, _⟩ := h.cells id el l h1
    exact (Array.getElem?_eq_some_iff.1 h3).1
  · obtain ⟨_, xs, ⟨_, h3⟩, _⟩ := h.grow id α el e enc L h1
    rcases h3 with ⟨hv, _⟩ | ⟨g, cap, cur, hv, _, h4, _⟩
    · rw [hv] at h2; cases h2
    · rw [hv] at h2; injection h2 with h2; subst h2
      exact (Array.getElem?_eq_some_iff.1 h4).1
end Go.Proofs.Ytfghccppoilfhaa.V
