/- Arguments: rows of whole numbers. -/
import Derived.Test.YtgdpahojinknmaaSv2
import Derived.Test.YtgdpahojinknmaaChecked
namespace Go.Proofs.Ytgdpahojinknmaa
open Go Vm Go.RowKit
set_option linter.unusedVariables false
set_option maxRecDepth 100000
theorem ints_open {w : World} {B : Nat → Prop} {v : Value} {svs : List SV} (h : Mt Try.prog 10 84 svs) (hs : SRs Try.prog w B svs [v]) :
    ∃ l : List Int, (∀ x ∈ l, IntKind.i64.min ≤ x ∧ x ≤ IntKind.i64.max) ∧ SR Try.prog w B (.cells l.length (intsC l) 3) v := by
  obtain ⟨l, rfl, _, h2⟩ := mt_ints (d := 8) Try.underlying84 Try.underlying3 (by kernel_rfl) h
  exact ⟨l, h2, hs.at_ 0 _ _ rfl rfl⟩
end Go.Proofs.Ytgdpahojinknmaa
