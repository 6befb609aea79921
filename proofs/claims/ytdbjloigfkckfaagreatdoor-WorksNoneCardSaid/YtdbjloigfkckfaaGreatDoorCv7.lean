/- Law 23's awake, in pieces. -/
import Derived.Test.YtdbjloigfkckfaaGreatDoorCnt
import Derived.Test.YtdbjloigfkckfaaGreatDoorCdv
import Derived.KernelRfl
namespace Go.Proofs.YtdbjloigfkckfaaGreatDoor
open Go Vm Go.RowKit
set_option linter.unusedVariables false
set_option linter.unusedSimpArgs false
set_option maxRecDepth 100000
set_option maxHeartbeats 8000000
theorem cv2_10_s  (u : Nat → Value) : (codesO Tryz.prog (callT Tryz.prog (tblL tblN) 1000 60) 1000 ((flat2 (inner (flat2 (inner (Lpenstocklaw23_awake.drop 5))))).take 1000) (frU 81 u cv2_9_d0.sl) (vsOf cv2_9_d0.objs)).sym (leafT 81 0) (.leaf [1, 3] [0, 1, 2, 3, 4, 5, 6, 7, 8, 9, 10, 11, 12, 13, 14, 15, 16, 17, 18, 19, 20, 21, 22, 23, 24, 25, 26, 127, 28, 29, 30] []) = some (.leaf (.normal) (cv2_10_d0 )) := by kernel_rfl
theorem cv2_10  {Q : VEx → Desc → Prop} (l0 : Q .normal (cv2_10_d0 )) : TriL Go.Proofs.Tryz.prog 81 0 (flat2 (inner (flat2 (inner (Lpenstocklaw23_awake.drop 5))))) cv2_9_d0 Q :=
  TriL.tree plainN mixed callsN (m := 1000) (l := (flat2 (inner (flat2 (inner (Lpenstocklaw23_awake.drop 5)))))) (d := cv2_9_d0) (fun u => cv2_10_s  u) (Tree.mkLeaf (TriL.done (by kernel_rfl) (l0 )))
theorem cv2_11_s  (u : Nat → Value) : (codesO Tryz.prog (callT Tryz.prog (tblL tblN) 1000 60) 1000 ((flat2 (inner (flat2 (inner (Lpenstocklaw23_awake.drop 5))))).take 1000) (frU 81 u cv2_10_d0.sl) (vsOf cv2_10_d0.objs)).sym (leafT 81 0) (.leaf [1, 3] [0, 1, 2, 3, 4, 5, 6, 7, 8, 9, 10, 11, 12, 13, 14, 15, 16, 17, 18, 19, 20, 21, 22, 23, 24, 25, 26, 27, 28, 29, 30] []) = some (.leaf (.normal) (cv2_11_d0 )) := by kernel_rfl
theorem cv2_11  {Q : VEx → Desc → Prop} (l0 : Q .normal (cv2_11_d0 )) : TriL Go.Proofs.Tryz.prog 81 0 (flat2 (inner (flat2 (inner (Lpenstocklaw23_awake.drop 5))))) cv2_10_d0 Q :=
  TriL.tree plainN mixed callsN (m := 1000) (l := (flat2 (inner (flat2 (inner (Lpenstocklaw23_awake.drop 5)))))) (d := cv2_10_d0) (fun u => cv2_11_s  u) (Tree.mkLeaf (TriL.done (by kernel_rfl) (l0 )))

end Go.Proofs.YtdbjloigfkckfaaGreatDoor
