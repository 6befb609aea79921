/- Part of the proof: Spf2, Spf3. -/
import Derived.Test.YtgepfmamfdmclaaGreatDoorRows
import Derived.Test.YtgepfmamfdmclaaGreatDoorChecked
import Derived.KernelRfl
import Derived.SizedLaws
import Derived.JoinedOf
import Derived.SevenTiedAt
set_option linter.unusedVariables false
set_option linter.unusedSimpArgs false
set_option maxRecDepth 100000
namespace Go.Proofs.YtgepfmamfdmclaaGreatDoor
theorem spg1 : Rows.scriptPrintsRow.wfByText (OpenSpec.ofChange Rows.scriptPrintsSpec) = true := by kernel_rfl
theorem spg2 : Tryz.prog.mainIs = some (true, "672cba328625a62c358af0b1ba533b67d1db51a8a23b938edc8a7360cf368476".toList) := by kernel_rfl
theorem spg3 : Tryz.prog.wantsStandIn 34 = false := by kernel_rfl
theorem spg4 : true = Tryz.prog.looks [] := by kernel_rfl
end Go.Proofs.YtgepfmamfdmclaaGreatDoor
