/- Part of the proof: Spf1. -/
import Derived.Test.YtgepfmamfdmclaaGreatDoorRows
import Derived.Test.YtgepfmamfdmclaaGreatDoorChecked
import Derived.KernelRfl
import Derived.SizedLaws
import Derived.JoinedOf
set_option linter.unusedVariables false
set_option linter.unusedSimpArgs false
set_option maxRecDepth 100000
namespace Go.Proofs.YtgepfmamfdmclaaGreatDoor
theorem spf1 : (Rows.scriptPrintsRow.inPlace == Tryz.prog.inPlace 5) = true := by kernel_rfl
theorem spf2 : (Rows.scriptPrintsRow.unfollowed == Tryz.prog.unfollowed 5) = true := by kernel_rfl
theorem spf3 : (Rows.scriptPrintsRow.recurses == Tryz.prog.recurses 5) = true := by kernel_rfl
theorem spf4 : (Rows.scriptPrintsRow.named == Tryz.prog.varsNamed 5) = true := by kernel_rfl
end Go.Proofs.YtgepfmamfdmclaaGreatDoor
