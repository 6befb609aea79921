/- Part of the proof: Cq1. -/
import Derived.Test.YtgepfmamfdmclaaGreatDoorJAr
import Derived.Test.YtgepfmamfdmclaaGreatDoorJAd
import Derived.Test.YtgepfmamfdmclaaGreatDoorJAs
import Derived.KernelRfl
set_option linter.unusedVariables false
set_option linter.unusedSimpArgs false
set_option maxRecDepth 100000
namespace Go.Proofs.YtgepfmamfdmclaaGreatDoor
open Go Vm Go.RowKit
set_option maxHeartbeats 8000000
theorem cq0  {Q : VEx → Desc → Prop} (l0 : TriL Go.Proofs.Tryz.prog 92 5 (Lworks_New.drop 6) (cq0_d0 ) Q) : TriL Go.Proofs.Tryz.prog 92 5 Lworks_New ⟨[(0, .agg #[.slice (some ⟨0, 0, none⟩) 3 3, .slice (some ⟨1, 0, none⟩) 2 2]), (1, .agg #[.slice (some ⟨2, 0, none⟩) 1 1, .slice none 0 0, .slice none 0 0, .slice none 0 0])], [.cells [.int .i64 1, .int .i64 0, .slice none 0 0, .slice none 0 0, .int .i64 3, .int .i64 1, .slice none 0 0, .slice none 0 0, .int .i64 2, .int .i64 0, .slice none 0 0, .slice none 0 0] 54 false, .cells [.int .i64 0, .int .i64 0, .int .i64 1, .int .i64 0, .int .i64 1, .int .i64 1, .int .i64 0, .int .i64 2, .int .i64 0, .int .i64 1] 56 false, .cells [.slice (some ⟨3, 0, none⟩) 3 3, .bool false, .int .i64 0, .slice (some ⟨4, 1, none⟩) 0 0] 58 false, .cells [.int .u8 97, .int .u8 10, .int .u8 98] 5 false, .cells [.int .i64 0] 3 false]⟩ Q :=
 TriL.tree plainN mixed callsI (lf := 1000) (m := 6) (s := (.leaf [2, 3, 8, 28, 29, 30] [0, 1, 2, 3, 4, 5, 6, 67] [])) (fun u => by kernel_rfl) (Tree.mkQ (l0 ))
theorem cq1_0  {Q : VEx → Desc → Prop} (l0 : Q .normal (cq1_0_d0 )) : TriL Go.Proofs.Tryz.prog 92 5 (flat2 (inner (flat2 (inner (Lworks_New.drop 6))))) cq0_d0 Q :=
 TriL.tree plainN mixed callsI (lf := 1000) (m := 1000) (s := (.leaf [2, 3, 8, 28, 29, 30] [0, 1, 2, 3, 4, 5, 6, 7, 155, 153, 20, 43, 108, 25, 26] [])) (fun u => by kernel_rfl) (Tree.mkQ (TriL.done (by kernel_rfl) (l0 )))
end Go.Proofs.YtgepfmamfdmclaaGreatDoor
