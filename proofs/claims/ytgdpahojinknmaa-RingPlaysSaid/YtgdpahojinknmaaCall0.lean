/- What every seat's pieces need. -/
import Derived.Test.YtgdpahojinknmaaVd
import Derived.Test.YtgdpahojinknmaaShut0
namespace Go.Proofs.Ytgdpahojinknmaa
open Go Vm Go.RowKit
set_option linter.unusedVariables false
def tbl0 : FuncId → Option Sum := fun _ => none
theorem calls0 : CallsOk Try.prog (callT Try.prog tbl0 50 40) := callT_ok plainN mixed (fun f s h => by cases h) 50 40
theorem callsL (lf : Nat) : CallsOk Try.prog (callT Try.prog tbl0 lf 40) := callT_ok plainN mixed (fun f s h => by cases h) lf 40
theorem pl_user (c : List Value) : ([] : List Value).all isScal = true := rfl

def pS {α : Type} (l : List Value) (k : ByteArray → List Value → Option α) : Option α := match l with
  | .string s :: l => k s l
  | _ => none
def pI {α : Type} (l : List Value) (k : Int → List Value → Option α) : Option α := match l with
  | .int .i64 s :: l => k s l
  | _ => none
def pB {α : Type} (l : List Value) (k : Bool → List Value → Option α) : Option α := match l with
  | .bool s :: l => k s l
  | _ => none
def pE {α : Type} (l : List Value) (a : α) : Option α := match l with
  | [] => some a
  | _ => none
theorem pS_some {α : Type} {l : List Value} {k : ByteArray → List Value → Option α} {a : α} (h : pS l k = some a) : ∃ s l', l = .string s :: l' ∧ k s l' = some a := by
  unfold pS at h; split at h
  · exact ⟨_, _, rfl, h⟩
  · cases h
theorem pI_some {α : Type} {l : List Value} {k : Int → List Value → Option α} {a : α} (h : pI l k = some a) : ∃ s l', l = .int .i64 s :: l' ∧ k s l' = some a := by
  unfold pI at h; split at h
  · exact ⟨_, _, rfl, h⟩
  · cases h
theorem pB_some {α : Type} {l : List Value} {k : Bool → List Value → Option α} {a : α} (h : pB l k = some a) : ∃ s l', l = .bool s :: l' ∧ k s l' = some a := by
  unfold pB at h; split at h
  · exact ⟨_, _, rfl, h⟩
  · cases h
theorem pE_some {α : Type} {l : List Value} {a b : α} (h : pE l a = some b) : l = [] ∧ a = b := by
  unfold pE at h; split at h
  · cases h; exact ⟨rfl, rfl⟩
  · cases h
end Go.Proofs.Ytgdpahojinknmaa
