/- means.all at the second example, in pieces. -/
import Derived.Test.YtdbjloigfkckfaaGreatDoorJoin
import Derived.Test.YtdbjloigfkckfaaGreatDoorHd12
import Derived.Test.YtdbjloigfkckfaaGreatDoorHd13
import Derived.Test.YtdbjloigfkckfaaGreatDoorCds
import Derived.KernelRfl
namespace Go.Proofs.YtdbjloigfkckfaaGreatDoor
open Go Vm Go.RowKit
set_option linter.unusedVariables false
set_option linter.unusedSimpArgs false
set_option maxRecDepth 100000
set_option maxHeartbeats 8000000
theorem cd3_0_s  (u : Nat → Value) : (codesO Tryz.prog (callT Tryz.prog (tblL tblC1) 1000 60) 1000 ((flat2 (inner (flat2 (inner (Lmeans_all.drop 10))))).take 1000) (frU 116 u cd2_d0.sl) (vsOf cd2_d0.objs)).sym (leafT 116 5) (.leaf [2, 4, 5, 8, 11, 58, 59, 60] [0, 1, 2, 3, 4, 5, 6, 7, 8, 9, 10, 11, 12, 13, 189, 14, 15, 16, 17, 18] []) = some (.leaf (.normal) (cd3_0_d0 )) := by kernel_rfl
theorem cd3_0  {Q : VEx → Desc → Prop} (l0 : Q .normal (cd3_0_d0 )) : TriL Go.Proofs.Tryz.prog 116 5 (flat2 (inner (flat2 (inner (Lmeans_all.drop 10))))) cd2_d0 Q :=
  TriL.tree plainN mixed callsC1 (m := 1000) (l := (flat2 (inner (flat2 (inner (Lmeans_all.drop 10)))))) (d := cd2_d0) (fun u => cd3_0_s  u) (Tree.mkLeaf (TriL.done (by kernel_rfl) (l0 )))
theorem cd3_1_s  (u : Nat → Value) : (codesO Tryz.prog (callT Tryz.prog (tblL tblC1) 1000 60) 1000 ((flat2 (inner (flat2 (inner (Lmeans_all.drop 10))))).take 1000) (frU 116 u cd3_0_d0.sl) (vsOf cd3_0_d0.objs)).sym (leafT 116 5) (.leaf [2, 4, 5, 8, 11, 58, 59, 60] [0, 1, 2, 3, 4, 5, 6, 7, 8, 9, 10, 11, 12, 13, 14, 226, 240, 15, 16, 17, 217, 18, 210, 215, 19] []) = some (.leaf (.normal) (cd3_1_d0 )) := by kernel_rfl
theorem cd3_1  {Q : VEx → Desc → Prop} (l0 : Q .normal (cd3_1_d0 )) : TriL Go.Proofs.Tryz.prog 116 5 (flat2 (inner (flat2 (inner (Lmeans_all.drop 10))))) cd3_0_d0 Q :=
  TriL.tree plainN mixed callsC1 (m := 1000) (l := (flat2 (inner (flat2 (inner (Lmeans_all.drop 10)))))) (d := cd3_0_d0) (fun u => cd3_1_s  u) (Tree.mkLeaf (TriL.done (by kernel_rfl) (l0 )))

end Go.Proofs.YtdbjloigfkckfaaGreatDoor
