/- Part of the proof: Cr5. -/
import Derived.Test.YtgepfmamfdmclaaGreatDoorJAw
import Derived.Test.YtgepfmamfdmclaaGreatDoorJAd
import Derived.Test.YtgepfmamfdmclaaGreatDoorJAx
import Derived.KernelRfl
set_option linter.unusedVariables false
set_option linter.unusedSimpArgs false
set_option maxRecDepth 100000
namespace Go.Proofs.YtgepfmamfdmclaaGreatDoor
open Go Vm Go.RowKit
set_option maxHeartbeats 8000000
theorem cr1_6  {Q : VEx → Desc → Prop} (l0 : Q .normal (cr1_6_d0 )) : TriL Go.Proofs.Tryz.prog 82 5 (flat2 (inner (flat2 (inner (Lplay_Run.drop 5))))) cr1_5_d0 Q :=
 TriL.tree plainN mixed callsR (lf := 1000) (m := 1000) (s := (.leaf [2, 6, 10] [0, 1, 2, 3, 4, 5, 6, 7, 8, 9, 10, 11, 12, 13, 14, 15, 16, 17, 18, 19, 20, 21, 22, 23, 24, 25, 26, 27] [])) (fun u => by kernel_rfl) (Tree.mkQ (TriL.done (by kernel_rfl) (l0 )))
theorem cr1_7  {Q : VEx → Desc → Prop} (l0 : Q .normal (cr1_7_d0 )) : TriL Go.Proofs.Tryz.prog 82 5 (flat2 (inner (flat2 (inner (Lplay_Run.drop 5))))) cr1_6_d0 Q :=
 TriL.tree plainN mixed callsR (lf := 1000) (m := 1000) (s := (.leaf [2, 6, 10] [0, 1, 2, 3, 4, 5, 6, 7, 8, 9, 10, 11, 12, 13, 14, 15, 16, 17, 18, 19, 20, 21, 22, 23, 24, 25, 26, 27] [])) (fun u => by kernel_rfl) (Tree.mkQ (TriL.done (by kernel_rfl) (l0 )))
end Go.Proofs.YtgepfmamfdmclaaGreatDoor
