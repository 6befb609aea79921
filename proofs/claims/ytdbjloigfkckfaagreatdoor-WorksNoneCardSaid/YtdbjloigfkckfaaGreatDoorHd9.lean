/- The small machine's logic, ninth text: tables of what is said of functions. -/
import Derived.Test.YtdbjloigfkckfaaGreatDoorHd8
namespace Go.Proofs.YtdbjloigfkckfaaGreatDoor.Vm
open Go.RowKit
set_option linter.unusedVariables false
set_option linter.unusedSimpArgs false

attribute [simp] pl_bytes pl_strs pl_ints pl_u8 bytesC_length strsC_length intsC_length
@[simp] theorem pl_splice' {a b : List Value} {n : Nat} (ha : a.all isScal = true) (hb : b.all isScal = true) : (splice a n b).all isScal = true := pl_splice ha hb n
@[simp] theorem pl_take' {a : List Value} {n : Nat} (ha : a.all isScal = true) : (a.take n).all isScal = true := pl_take ha n
@[simp] theorem pl_drop' {a : List Value} {n : Nat} (ha : a.all isScal = true) : (a.drop n).all isScal = true := pl_drop ha n
@[simp] theorem one_bytes (b : ByteArray) : (bytesC b).all Value.oneCell' = true := one_of_plain (pl_bytes b)
@[simp] theorem one_strs (b : List ByteArray) : (strsC b).all Value.oneCell' = true := one_of_plain (pl_strs b)
@[simp] theorem one_ints (b : List Int) : (intsC b).all Value.oneCell' = true := one_of_plain (pl_ints b)
@[simp] theorem scal_i (k : IntKind) (x : Int) : isScal (.int k x) = true := rfl
@[simp] theorem scal_s (x : ByteArray) : isScal (.string x) = true := rfl
@[simp] theorem scal_b (x : Bool) : isScal (.bool x) = true := rfl
@[simp] theorem one_i (k : IntKind) (x : Int) : Value.oneCell' (.int k x) = true := rfl
@[simp] theorem one_s (x : ByteArray) : Value.oneCell' (.string x) = true := rfl
@[simp] theorem one_b (x : Bool) : Value.oneCell' (.bool x) = true := rfl
@[simp] theorem blt_t {a b : Nat} : Nat.blt a b = true ↔ a < b := blt_iff
@[simp] theorem blt_f {a b : Nat} : Nat.blt a b = false ↔ b ≤ a := by
  cases h : Nat.blt a b with
  | true => have := blt_iff.1 h; simp; omega
  | false => simp; exact Nat.le_of_not_lt fun h' => by rw [blt_iff.2 h'] at h; cases h
@[simp] theorem ble_t {a b : Nat} : Nat.ble a b = true ↔ a ≤ b := ⟨Nat.le_of_ble_eq_true, Nat.ble_eq_true_of_le⟩
@[simp] theorem ble_f {a b : Nat} : Nat.ble a b = false ↔ b < a := by
  cases h : Nat.ble a b with
  | true => have := Nat.le_of_ble_eq_true h; simp; omega
  | false => simp; exact Nat.lt_of_not_le fun h' => by rw [Nat.ble_eq_true_of_le h'] at h; cases h
@[simp] theorem beq_t {a b : Nat} : Nat.beq a b = true ↔ a = b := ⟨Nat.eq_of_beq_eq_true, fun h => by subst h; exact Nat.beq_refl a⟩
@[simp] theorem beq_f {a b : Nat} : Nat.beq a b = false ↔ a ≠ b := by
  cases h : Nat.beq a b with
  | true => have := Nat.eq_of_beq_eq_true h; simp; omega
  | false => simp; intro e; subst e; rw [Nat.beq_refl] at h; cases h
@[simp] theorem full_t {n c : Nat} : full n c = true ↔ c ≤ n := by
  unfold full
  cases c with
  | zero => simp
  | succ c => simp
@[simp] theorem full_f {n c : Nat} : full n c = false ↔ n < c := by
  unfold full
  cases c with
  | zero => simp
  | succ c => simp
theorem full_self (n : Nat) : full n n = true := full_t.2 (Nat.le_refl n)
def tblL : List (FuncId × Sum) → FuncId → Option Sum
  | [], _ => none
  | p :: l, f => match Nat.beq f p.1 with
    | true => some p.2
    | false => tblL l f
inductive TblOk (P : Program) : List (FuncId × Sum) → Prop where
  | nil : TblOk P []
  | cons {f : FuncId} {s : Sum} {l : List (FuncId × Sum)} (h : FnOk P f s) (t : TblOk P l) : TblOk P ((f, s) :: l)
theorem TblOk.app {P : Program} {l l' : List (FuncId × Sum)} (h : TblOk P l) (h' : TblOk P l') : TblOk P (l ++ l') := by
  induction h with
  | nil => exact h'
  | cons h _ ih => exact .cons h ih
theorem tblL_ok {P : Program} {l : List (FuncId × Sum)} (h : TblOk P l) : ∀ f s, tblL l f = some s → FnOk P f s := by
  induction h with
  | nil => intro f s h; cases h
  | cons h _ ih =>
    intro f s hf
    unfold tblL at hf
    split at hf
    · rename_i hb
      cases hf
      rw [Nat.eq_of_beq_eq_true hb]
      exact h
    · exact ih f s hf

/-- Said of calls by a function that may fail. -/
def Sum.of (g : List Value → List VObj → Option (Bool × CRes × List VObj)) : Sum := ⟨namesA, fun a o => match g a o with
  | some (c, r, o') => .must c (.done (r, o'))
  | none => .fail⟩
theorem FnOk.of {P : Program} {f : FuncId} {g : List Value → List VObj → Option (Bool × CRes × List VObj)} (h : ∀ a o r o', g a o = some (true, r, o') → FnT P f a o fun r' o'' => r' = r ∧ o'' = o') : FnOk P f (Sum.of g) := by
  intro a o r o' hr
  unfold Sum.of at hr
  dsimp only at hr
  split at hr
  · rename_i c r1 o1 hg
    obtain ⟨h1, h2⟩ := QT.run_must hr
    subst h1
    cases h2
    exact h _ _ _ _ hg
  · cases hr
end Go.Proofs.YtdbjloigfkckfaaGreatDoor.Vm
