/- works.New at law 23's example, in pieces. -/
import Derived.Test.YtdbjloigfkckfaaGreatDoorJoin
import Derived.Test.YtdbjloigfkckfaaGreatDoorHd12
import Derived.Test.YtdbjloigfkckfaaGreatDoorHd13
import Derived.Test.YtdbjloigfkckfaaGreatDoorCdn
import Derived.KernelRfl
namespace Go.Proofs.YtdbjloigfkckfaaGreatDoor
open Go Vm Go.RowKit
set_option linter.unusedVariables false
set_option linter.unusedSimpArgs false
set_option maxRecDepth 100000
set_option maxHeartbeats 8000000
theorem cn1_2_s  (u : Nat → Value) : (codesO Tryz.prog (callT Tryz.prog (tblL tblC1) 1000 60) 1000 ((flat2 (inner (flat2 (inner (Lworks_New.drop 6))))).take 1000) (frU 92 u cn1_1_d0.sl) (vsOf cn1_1_d0.objs)).sym (leafT 92 5) (.leaf [2, 3, 8, 28, 29, 30] [0, 1, 2, 3, 4, 5, 6, 7, 214, 9, 10, 212, 11, 12, 13, 14, 15, 16, 31, 90, 174, 17, 18, 44, 43] []) = some (.leaf (.normal) (cn1_2_d0 )) := by kernel_rfl
theorem cn1_2  {Q : VEx → Desc → Prop} (l0 : Q .normal (cn1_2_d0 )) : TriL Go.Proofs.Tryz.prog 92 5 (flat2 (inner (flat2 (inner (Lworks_New.drop 6))))) cn1_1_d0 Q :=
  TriL.tree plainN mixed callsC1 (m := 1000) (l := (flat2 (inner (flat2 (inner (Lworks_New.drop 6)))))) (d := cn1_1_d0) (fun u => cn1_2_s  u) (Tree.mkLeaf (TriL.done (by kernel_rfl) (l0 )))
theorem cn1_3_s  (u : Nat → Value) : (codesO Tryz.prog (callT Tryz.prog (tblL tblC1) 1000 60) 1000 ((flat2 (inner (flat2 (inner (Lworks_New.drop 6))))).take 1000) (frU 92 u cn1_2_d0.sl) (vsOf cn1_2_d0.objs)).sym (leafT 92 5) (.leaf [2, 3, 8, 28, 29, 30] [0, 1, 2, 3, 4, 5, 6, 7, 204, 9, 10, 11, 202, 12, 13, 14, 15, 16, 17, 18, 19, 20, 37, 93, 177, 21, 22, 23, 24] []) = some (.leaf (.normal) (cn1_3_d0 )) := by kernel_rfl
theorem cn1_3  {Q : VEx → Desc → Prop} (l0 : Q .normal (cn1_3_d0 )) : TriL Go.Proofs.Tryz.prog 92 5 (flat2 (inner (flat2 (inner (Lworks_New.drop 6))))) cn1_2_d0 Q :=
  TriL.tree plainN mixed callsC1 (m := 1000) (l := (flat2 (inner (flat2 (inner (Lworks_New.drop 6)))))) (d := cn1_2_d0) (fun u => cn1_3_s  u) (Tree.mkLeaf (TriL.done (by kernel_rfl) (l0 )))

end Go.Proofs.YtdbjloigfkckfaaGreatDoor
