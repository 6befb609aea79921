/- Part of the proof: Cp2. -/
import Derived.Test.YtgepfmamfdmclaaGreatDoorJAd
import Derived.Test.YtgepfmamfdmclaaGreatDoorJAk
import Derived.KernelRfl
set_option linter.unusedVariables false
set_option linter.unusedSimpArgs false
set_option maxRecDepth 100000
namespace Go.Proofs.YtgepfmamfdmclaaGreatDoor
open Go Vm Go.RowKit
set_option maxHeartbeats 8000000
theorem cp1_0  {Q : VEx → Desc → Prop} (l0 : Q .normal (cp1_0_d0 )) : TriL Go.Proofs.Tryz.prog 29 0 (flat2 (inner (flat2 (inner (Lscript_Parse.drop 5))))) cp0_d0 Q :=
 TriL.tree plainN mixed callsP (lf := 1000) (m := 1000) (s := (.leaf [2, 5, 13, 14, 15] [0, 1, 2, 11] [])) (fun u => by kernel_rfl) (Tree.mkQ (TriL.done (by kernel_rfl) (l0 )))
theorem cp1_1  {Q : VEx → Desc → Prop} (l0 : Q .normal (cp1_1_d0 )) : TriL Go.Proofs.Tryz.prog 29 0 (flat2 (inner (flat2 (inner (Lscript_Parse.drop 5))))) cp1_0_d0 Q :=
 TriL.tree plainN mixed callsP (lf := 1000) (m := 1000) (s := (.leaf [2, 5, 13, 14, 15] [0, 1, 2, 12] [])) (fun u => by kernel_rfl) (Tree.mkQ (TriL.done (by kernel_rfl) (l0 )))
end Go.Proofs.YtgepfmamfdmclaaGreatDoor
