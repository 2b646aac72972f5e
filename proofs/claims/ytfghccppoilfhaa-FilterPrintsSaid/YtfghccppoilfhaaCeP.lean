/-
  Calls that were run before: what they came to is laid down, and taken where the same call comes up again. No condition.
-/
import Derived.Test.YtfghccppoilfhaaCeK
namespace Go.Proofs.Ytfghccppoilfhaa
open Go.RowKit

/-! ### Whether two things are the same -/
def eqLs {α : Type} (f : α → α → Bool) : List α → List α → Bool
  | [], [] => true
  | x :: a, y :: b => f x y && eqLs f a b
  | _, _ => false
theorem eqLs_eq {α : Type} {f : α → α → Bool} (hf : ∀ x y, f x y = true → x = y) : ∀ {a b : List α}, eqLs f a b = true → a = b
  | [], [], _ => rfl
  | x :: a, y :: b, h => by
    simp only [eqLs, Bool.and_eq_true] at h
    rw [hf _ _ h.1, eqLs_eq hf h.2]
  | [], _ :: _, h => by cases h
  | _ :: _, [], h => by cases h
def eqArr {α : Type} (f : α → α → Bool) (a b : Array α) : Bool := eqLs f a.toList b.toList
theorem eqArr_eq {α : Type} {f : α → α → Bool} (hf : ∀ x y, f x y = true → x = y) {a b : Array α} (h : eqArr f a b = true) : a = b := Array.ext' (eqLs_eq hf h)
def eqInt : Int → Int → Bool
  | .ofNat a, .ofNat b => Nat.beq a b
  | .negSucc a, .negSucc b => Nat.beq a b
  | _, _ => false
theorem eqInt_eq {a b : Int} (h : eqInt a b = true) : a = b := by
  unfold eqInt at h
  split at h
  · rw [Nat.eq_of_beq_eq_true h]
  · rw [Nat.eq_of_beq_eq_true h]
  · cases h
def eqBool : Bool → Bool → Bool
  | true, b => b
  | false, true => false
  | false, false => true
theorem eqBool_eq {a b : Bool} (h : eqBool a b = true) : a = b := by cases a <;> cases b <;> first | rfl | cases h
def kindNo : IntKind → Nat
  | .i8 => 0
  | .i16 => 1
  | .i32 => 2
  | .i64 => 3
  | .u8 => 4
  | .u16 => 5
  | .u32 => 6
  | .u64 => 7
theorem kindNo_eq {a b : IntKind} (h : kindNo a = kindNo b) : a = b := by cases a <;> cases b <;> first | rfl | (simp [kindNo] at h)
def eqU8 (a b : UInt8) : Bool := Nat.beq a.toNat b.toNat
theorem eqU8_eq (a b : UInt8) (h : eqU8 a b = true) : a = b := UInt8.toNat_inj.1 (Nat.eq_of_beq_eq_true h)
def eqBytes (a b : ByteArray) : Bool := eqArr eqU8 a.data b.data
theorem eqBytes_eq {a b : ByteArray} (h : eqBytes a b = true) : a = b := by
  obtain ⟨a⟩ := a
  obtain ⟨b⟩ := b
  have : a = b := eqArr_eq eqU8_eq h
  rw [this]
def eqAddr (a b : Addr) : Bool := Nat.beq a.block b.block && Nat.beq a.off b.off && a.spot.isNone && b.spot.isNone
theorem eqAddr_eq {a b : Addr} (h : eqAddr a b = true) : a = b := by
  obtain ⟨a1, a2, a3⟩ := a
  obtain ⟨b1, b2, b3⟩ := b
  simp only [eqAddr, Bool.and_eq_true, Option.isNone_iff_eq_none] at h
  obtain ⟨⟨⟨h1, h2⟩, rfl⟩, rfl⟩ := h
  rw [Nat.eq_of_beq_eq_true h1, Nat.eq_of_beq_eq_true h2]
def eqOpt {α : Type} (f : α → α → Bool) : Option α → Option α → Bool
  | none, none => true
  | some x, some y => f x y
  | _, _ => false
theorem eqOpt_eq {α : Type} {f : α → α → Bool} (hf : ∀ x y, f x y = true → x = y) {a b : Option α} (h : eqOpt f a b = true) : a = b := by
  cases a <;> cases b <;> first | rfl | (rw [hf _ _ h]) | cases h
theorem natBeq_eq (a b : Nat) (h : Nat.beq a b = true) : a = b := Nat.eq_of_beq_eq_true h
def eqFn : Fn → Fn → Bool
  | .func f, .func g => Nat.beq f g
  | _, _ => false
theorem eqFn_eq {a b : Fn} (h : eqFn a b = true) : a = b := by
  unfold eqFn at h
  split at h
  · rw [Nat.eq_of_beq_eq_true h]
  · cases h
def eqV : Nat → Value → Value → Bool
  | 0, _, _ => false
  | n + 1, x, y => match x with
    | .bool a => match y with
      | .bool b => eqBool a b
      | _ => false
    | .int k a => match y with
      | .int k' b => Nat.beq (kindNo k) (kindNo k') && eqInt a b
      | _ => false
    | .string a => match y with
      | .string b => eqBytes a b
      | _ => false
    | .pointer a => match y with
      | .pointer b => eqOpt eqAddr a b
      | _ => false
    | .slice a l c => match y with
      | .slice b l' c' => eqOpt eqAddr a b && Nat.beq l l' && Nat.beq c c'
      | _ => false
    | .map a => match y with
      | .map b => eqOpt Nat.beq a b
      | _ => false
    | .func f a c => match y with
      | .func g b d => eqFn f g && eqArr (eqV n) a b && eqArr (eqV n) c d
      | _ => false
    | .nilFunc => match y with
      | .nilFunc => true
      | _ => false
    | .iface t a => match y with
      | .iface u b => Nat.beq t u && eqV n a b
      | _ => false
    | .nilIface => match y with
      | .nilIface => true
      | _ => false
    | .agg a => match y with
      | .agg b => eqArr (eqV n) a b
      | _ => false
    | .tuple a => match y with
      | .tuple b => eqArr (eqV n) a b
      | _ => false
    | _ => false
theorem eqV_eq : ∀ (n : Nat) (x y : Value), eqV n x y = true → x = y := by
  intro n
  induction n with
  | zero => intro x y h; cases h
  | succ n ih =>
    intro x y h
    unfold eqV at h
    split at h <;> (try (cases h; done)) <;> split at h <;> (try (cases h; done)) <;> (try simp only [Bool.and_eq_true] at h)
    · rw [eqBool_eq h]
    · rw [kindNo_eq (Nat.eq_of_beq_eq_true h.1), eqInt_eq h.2]
    · rw [eqBytes_eq h]
    · rw [eqOpt_eq (fun _ _ => eqAddr_eq) h]
    · rw [eqOpt_eq (fun _ _ => eqAddr_eq) h.1.1, Nat.eq_of_beq_eq_true h.1.2, Nat.eq_of_beq_eq_true h.2]
    · rw [eqOpt_eq natBeq_eq h]
    · rw [eqFn_eq h.1.1, eqArr_eq ih h.1.2, eqArr_eq ih h.2]
    · rfl
    · rw [Nat.eq_of_beq_eq_true h.1, ih _ _ h.2]
    · rfl
    · rw [eqArr_eq ih h]
    · rw [eqArr_eq ih h]
/-! ### Calls laid down -/
section
variable {P : Program}
end
end Go.Proofs.Ytfghccppoilfhaa
