/- Part of the proof: Cp1. -/
import Derived.Test.YtgepfmamfdmclaaGreatDoorJAd
import Derived.Test.YtgepfmamfdmclaaGreatDoorJAk
import Derived.KernelRfl
set_option linter.unusedVariables false
set_option linter.unusedSimpArgs false
set_option maxRecDepth 100000
namespace Go.Proofs.YtgepfmamfdmclaaGreatDoor
open Go Vm Go.RowKit
set_option maxHeartbeats 8000000
theorem cp0  {Q : VEx → Desc → Prop} (l0 : TriL Go.Proofs.Tryz.prog 29 0 (Lscript_Parse.drop 5) (cp0_d0 ) Q) : TriL Go.Proofs.Tryz.prog 29 0 Lscript_Parse ⟨[(0, .string (ByteArray.mk #[115, 116, 97, 103, 101, 32, 49, 32, 48, 32, 45, 32, 45, 10, 115, 116, 97, 103, 101, 32, 51, 32, 49, 32, 45, 32, 45, 10, 115, 116, 97, 103, 101, 32, 50, 32, 48, 32, 45, 32, 45, 10, 100, 117, 99, 116, 32, 48, 32, 48, 32, 49, 32, 48, 32, 49, 10, 100, 117, 99, 116, 32, 49, 32, 48, 32, 50, 32, 48, 32, 49, 10, 115, 111, 117, 114, 99, 101, 32, 54, 49, 48, 97, 54, 50, 32, 48, 32, 48, 10]))], []⟩ Q :=
 TriL.tree plainN mixed callsP (lf := 1000) (m := 5) (s := (.leaf [2, 5, 13, 14, 15] [0, 1, 2] [])) (fun u => by kernel_rfl) (Tree.mkQ (l0 ))
end Go.Proofs.YtgepfmamfdmclaaGreatDoor
