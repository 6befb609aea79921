/- Part of the proof: Cr1. -/
import Derived.Test.YtgepfmamfdmclaaGreatDoorJAw
import Derived.Test.YtgepfmamfdmclaaGreatDoorJAd
import Derived.Test.YtgepfmamfdmclaaGreatDoorJAx
import Derived.KernelRfl
set_option linter.unusedVariables false
set_option linter.unusedSimpArgs false
set_option maxRecDepth 100000
namespace Go.Proofs.YtgepfmamfdmclaaGreatDoor
open Go Vm Go.RowKit
set_option maxHeartbeats 8000000
theorem cr0  {Q : VEx → Desc → Prop} (l0 : TriL Go.Proofs.Tryz.prog 82 5 (Lplay_Run.drop 5) (cr0_d0 ) Q) : TriL Go.Proofs.Tryz.prog 82 5 Lplay_Run ⟨[(0, .agg #[.slice (some ⟨0, 0, none⟩) 3 3, .slice (some ⟨1, 0, none⟩) 2 2]), (1, .agg #[.slice (some ⟨2, 0, none⟩) 1 1, .slice none 0 0, .slice none 0 0, .slice none 0 0]), (2, .slice none 0 0)], [.cells [.int .i64 1, .int .i64 0, .slice none 0 0, .slice none 0 0, .int .i64 3, .int .i64 1, .slice none 0 0, .slice none 0 0, .int .i64 2, .int .i64 0, .slice none 0 0, .slice none 0 0] 54 false, .cells [.int .i64 0, .int .i64 0, .int .i64 1, .int .i64 0, .int .i64 1, .int .i64 1, .int .i64 0, .int .i64 2, .int .i64 0, .int .i64 1] 56 false, .cells [.slice (some ⟨3, 0, none⟩) 3 3, .bool false, .int .i64 0, .slice (some ⟨4, 1, none⟩) 0 0] 58 false, .cells [.int .u8 97, .int .u8 10, .int .u8 98] 5 false, .cells [.int .i64 0] 3 false]⟩ Q :=
 TriL.tree plainN mixed callsR (lf := 1000) (m := 5) (s := (.leaf [2, 6, 10] [0, 1, 2, 3, 4, 7, 26, 8, 9, 10, 11, 12, 13, 14, 15, 16, 17, 18, 19, 20, 21, 22, 23, 24, 25] [])) (fun u => by kernel_rfl) (Tree.mkQ (l0 ))
end Go.Proofs.YtgepfmamfdmclaaGreatDoor
