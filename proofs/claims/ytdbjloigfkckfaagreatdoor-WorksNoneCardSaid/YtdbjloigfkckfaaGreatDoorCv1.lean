/- Law 23's awake, in pieces. -/
import Derived.Test.YtdbjloigfkckfaaGreatDoorCnt
import Derived.Test.YtdbjloigfkckfaaGreatDoorCdv
import Derived.KernelRfl
namespace Go.Proofs.YtdbjloigfkckfaaGreatDoor
open Go Vm Go.RowKit
set_option linter.unusedVariables false
set_option linter.unusedSimpArgs false
set_option maxRecDepth 100000
set_option maxHeartbeats 8000000
theorem cv0_s  (u : Nat → Value) : (codesO Tryz.prog (callT Tryz.prog (tblL tblN) 1000 60) 1000 (Lpenstocklaw23_awake.take 2) (frU 81 u []) (vsOf [])).sym (leafT 81 0) (.leaf [1, 2] [6, 7, 8, 9, 10, 11, 12, 13, 14, 15, 16, 17, 18, 19, 20, 21, 22, 23, 24, 25, 26, 27, 28] []) = some (.leaf (.normal) (cv0_d0 )) := by kernel_rfl
theorem cv0  {Q : VEx → Desc → Prop} (l0 : TriL Go.Proofs.Tryz.prog 81 0 (Lpenstocklaw23_awake.drop 2) (cv0_d0 ) Q) : TriL Go.Proofs.Tryz.prog 81 0 Lpenstocklaw23_awake ⟨[], []⟩ Q :=
  TriL.tree plainN mixed callsN (m := 2) (l := Lpenstocklaw23_awake) (d := ⟨[], []⟩) (fun u => cv0_s  u) (Tree.mkLeaf (l0 ))
theorem cv1_s  (u : Nat → Value) : (codesO Tryz.prog (callT Tryz.prog (tblL tblN) 1000 60) 1000 ((Lpenstocklaw23_awake.drop 2).take 3) (frU 81 u cv0_d0.sl) (vsOf cv0_d0.objs)).sym (leafT 81 0) (.leaf [1, 3] [0, 1, 2, 3, 4, 5, 6, 7, 8, 9, 10, 11, 12, 13, 14, 15, 16, 17, 18, 19, 20, 21, 22] []) = some (.leaf (.normal) (cv1_d0 )) := by kernel_rfl
theorem cv1  {Q : VEx → Desc → Prop} (l0 : TriL Go.Proofs.Tryz.prog 81 0 ((Lpenstocklaw23_awake.drop 2).drop 3) (cv1_d0 ) Q) : TriL Go.Proofs.Tryz.prog 81 0 (Lpenstocklaw23_awake.drop 2) cv0_d0 Q :=
  TriL.tree plainN mixed callsN (m := 3) (l := (Lpenstocklaw23_awake.drop 2)) (d := cv0_d0) (fun u => cv1_s  u) (Tree.mkLeaf (l0 ))

end Go.Proofs.YtdbjloigfkckfaaGreatDoor
