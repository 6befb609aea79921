/- Part of the proof: Spf4. -/
import Derived.Test.YtgepfmamfdmclaaGreatDoorRows
import Derived.Test.YtgepfmamfdmclaaGreatDoorChecked
import Derived.KernelRfl
import Derived.SizedLaws
import Derived.JoinedOf
import Derived.SevenTiedAt
set_option linter.unusedVariables false
set_option linter.unusedSimpArgs false
set_option maxRecDepth 100000
namespace Go.Proofs.YtgepfmamfdmclaaGreatDoor
theorem spg5 : false = Rows.scriptPrintsRow.goesBy Tryz.prog := by kernel_rfl
end Go.Proofs.YtgepfmamfdmclaaGreatDoor
