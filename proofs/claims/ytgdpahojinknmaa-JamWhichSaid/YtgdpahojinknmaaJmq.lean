/- What is said of cmp.Compare, at whole numbers. -/
import Derived.Test.YtgdpahojinknmaaJmp
namespace Go.Proofs.Ytgdpahojinknmaa
open Go Vm Go.RowKit
set_option linter.unusedVariables false
set_option linter.unusedSimpArgs false
set_option maxRecDepth 100000

def cmpI (a b : Int) : Int := bif decide (a < b) then -1 else bif decide (a > b) then 1 else 0
theorem cp_fn (a b : Int) : FnT Try.prog 70 [.int .i64 a, .int .i64 b] [] fun r o => r = .ret (.int .i64 (cmpI a b)) ∧ o = [] := by
  refine FnT.ofT (n := slotsC Try.prog 70) (by kernel_rfl) ?_
  apply cp a b (by simp) (by simp)
  all_goals first
    | (intro h0; exact cp_r0 a b ⟨by simp only [cmpI, h0, cond_true, cond_false], rfl⟩)
    | (intro h0 h1; first | exact cp_r1 a b ⟨by simp only [cmpI, h0, h1, cond_true, cond_false], rfl⟩ | exact cp_r2 a b ⟨by simp only [cmpI, h0, h1, cond_true, cond_false], rfl⟩)
def gII (f : Int → Int → Int) (a : List Value) (o : List VObj) : Option (Bool × CRes × List VObj) := match a, o with
  | [.int .i64 x, .int .i64 y], [] => some (true, .ret (.int .i64 (f x y)), [])
  | _, _ => none
theorem cp_ok : FnOk Try.prog 70 (Sum.of (gII cmpI)) := FnOk.of fun a o r o' h => by
  unfold gII at h
  split at h
  · simp only [Option.some.injEq, Prod.mk.injEq] at h
    obtain ⟨_, rfl, rfl⟩ := h
    exact cp_fn _ _
  · cases h
def tblJ1 : List (FuncId × Sum) := [(70, Sum.of (gII cmpI))]
theorem callsJ1 : CallsOk Try.prog (callT Try.prog (tblL tblJ1) 50 40) := callT_ok plainN mixed (tblL_ok (.cons cp_ok .nil)) 50 40
end Go.Proofs.Ytgdpahojinknmaa
