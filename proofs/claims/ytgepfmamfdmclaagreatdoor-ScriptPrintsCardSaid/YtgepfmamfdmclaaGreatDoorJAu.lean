/- Part of the proof: Cq2. -/
import Derived.Test.YtgepfmamfdmclaaGreatDoorJAr
import Derived.Test.YtgepfmamfdmclaaGreatDoorJAd
import Derived.Test.YtgepfmamfdmclaaGreatDoorJAs
import Derived.KernelRfl
set_option linter.unusedVariables false
set_option linter.unusedSimpArgs false
set_option maxRecDepth 100000
namespace Go.Proofs.YtgepfmamfdmclaaGreatDoor
open Go Vm Go.RowKit
set_option maxHeartbeats 8000000
theorem cq1_1  {Q : VEx → Desc → Prop} (l0 : Q .normal (cq1_1_d0 )) : TriL Go.Proofs.Tryz.prog 92 5 (flat2 (inner (flat2 (inner (Lworks_New.drop 6))))) cq1_0_d0 Q :=
 TriL.tree plainN mixed callsI (lf := 1000) (m := 1000) (s := (.leaf [2, 3, 8, 28, 29, 30] [0, 1, 2, 3, 4, 5, 6, 7, 171, 9, 169, 10, 11, 12, 27, 72, 137, 13, 14, 39] [])) (fun u => by kernel_rfl) (Tree.mkQ (TriL.done (by kernel_rfl) (l0 )))
end Go.Proofs.YtgepfmamfdmclaaGreatDoor
