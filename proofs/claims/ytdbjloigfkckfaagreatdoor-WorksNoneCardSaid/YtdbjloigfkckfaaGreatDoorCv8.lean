/- Law 23's awake, in pieces. -/
import Derived.Test.YtdbjloigfkckfaaGreatDoorCnt
import Derived.Test.YtdbjloigfkckfaaGreatDoorCdv
import Derived.KernelRfl
namespace Go.Proofs.YtdbjloigfkckfaaGreatDoor
open Go Vm Go.RowKit
set_option linter.unusedVariables false
set_option linter.unusedSimpArgs false
set_option maxRecDepth 100000
set_option maxHeartbeats 8000000
theorem cv2_12_s  (u : Nat → Value) : (codesO Tryz.prog (callT Tryz.prog (tblL tblN) 1000 60) 1000 ((flat2 (inner (flat2 (inner (Lpenstocklaw23_awake.drop 5))))).take 1000) (frU 81 u cv2_11_d0.sl) (vsOf cv2_11_d0.objs)).sym (leafT 81 0) (.leaf [1, 3] [0, 1, 2, 3, 4, 5, 6, 7, 8, 9, 10, 11, 12, 13, 14, 15, 16, 17, 18, 19, 20, 21, 22, 23, 80, 24, 25, 26, 27, 28, 29, 30] []) = some (.leaf (.normal) (cv2_12_d0 )) := by kernel_rfl
theorem cv2_12  {Q : VEx → Desc → Prop} (l0 : Q .normal (cv2_12_d0 )) : TriL Go.Proofs.Tryz.prog 81 0 (flat2 (inner (flat2 (inner (Lpenstocklaw23_awake.drop 5))))) cv2_11_d0 Q :=
  TriL.tree plainN mixed callsN (m := 1000) (l := (flat2 (inner (flat2 (inner (Lpenstocklaw23_awake.drop 5)))))) (d := cv2_11_d0) (fun u => cv2_12_s  u) (Tree.mkLeaf (TriL.done (by kernel_rfl) (l0 )))
theorem cv2_13_s  (u : Nat → Value) : (codesO Tryz.prog (callT Tryz.prog (tblL tblN) 1000 60) 1000 ((flat2 (inner (flat2 (inner (Lpenstocklaw23_awake.drop 5))))).take 1000) (frU 81 u cv2_12_d0.sl) (vsOf cv2_12_d0.objs)).sym (leafT 81 0) (.leaf [1, 3] [0, 1, 2, 3, 4, 5, 6, 7, 8, 9, 10, 11, 12, 13, 14, 15, 16, 17, 18, 19, 20, 21, 22, 23, 24, 25, 26, 27, 28, 29, 30, 31] []) = some (.leaf (.normal) (cv2_13_d0 )) := by kernel_rfl
theorem cv2_13  {Q : VEx → Desc → Prop} (l0 : Q .normal (cv2_13_d0 )) : TriL Go.Proofs.Tryz.prog 81 0 (flat2 (inner (flat2 (inner (Lpenstocklaw23_awake.drop 5))))) cv2_12_d0 Q :=
  TriL.tree plainN mixed callsN (m := 1000) (l := (flat2 (inner (flat2 (inner (Lpenstocklaw23_awake.drop 5)))))) (d := cv2_12_d0) (fun u => cv2_13_s  u) (Tree.mkLeaf (TriL.done (by kernel_rfl) (l0 )))
theorem cv2_14_s  (u : Nat → Value) : (codesO Tryz.prog (callT Tryz.prog (tblL tblN) 1000 60) 1000 ((flat2 (inner (flat2 (inner (Lpenstocklaw23_awake.drop 5))))).take 1000) (frU 81 u cv2_13_d0.sl) (vsOf cv2_13_d0.objs)).sym (leafT 81 0) (.leaf [1, 3] [0, 1, 2, 3, 4, 5, 6, 7, 8, 9, 10, 11, 12, 13, 14, 15, 16, 17, 18, 19, 20, 21, 22, 23, 24, 25, 26, 27, 28, 29, 30, 31] []) = some (.leaf (.normal) (cv2_14_d0 )) := by kernel_rfl
theorem cv2_14  {Q : VEx → Desc → Prop} (l0 : Q .normal (cv2_14_d0 )) : TriL Go.Proofs.Tryz.prog 81 0 (flat2 (inner (flat2 (inner (Lpenstocklaw23_awake.drop 5))))) cv2_13_d0 Q :=
  TriL.tree plainN mixed callsN (m := 1000) (l := (flat2 (inner (flat2 (inner (Lpenstocklaw23_awake.drop 5)))))) (d := cv2_13_d0) (fun u => cv2_14_s  u) (Tree.mkLeaf (TriL.done (by kernel_rfl) (l0 )))
theorem cv2_15_s  (u : Nat → Value) : (codesO Tryz.prog (callT Tryz.prog (tblL tblN) 1000 60) 1000 ((flat2 (inner (flat2 (inner (Lpenstocklaw23_awake.drop 5))))).take 1000) (frU 81 u cv2_14_d0.sl) (vsOf cv2_14_d0.objs)).sym (leafT 81 0) (.leaf [1] [0, 1, 2, 3, 4, 5, 6, 7, 8, 9, 10, 11, 12, 13, 14, 15, 16, 17, 18, 19, 20, 21, 22, 23, 24, 25, 26, 27, 28, 29, 30, 31] []) = some (.leaf (.exit 0) (cv2_15_d0 )) := by kernel_rfl
theorem cv2_15  {Q : VEx → Desc → Prop} (l0 : Q (.exit 0) (cv2_15_d0 )) : TriL Go.Proofs.Tryz.prog 81 0 (flat2 (inner (flat2 (inner (Lpenstocklaw23_awake.drop 5))))) cv2_14_d0 Q :=
  TriL.tree plainN mixed callsN (m := 1000) (l := (flat2 (inner (flat2 (inner (Lpenstocklaw23_awake.drop 5)))))) (d := cv2_14_d0) (fun u => cv2_15_s  u) (Tree.mkLeaf (l0 ))
theorem cv3_r0  {Q : CRes → List VObj → Prop}  (hq : Q (.ret (.bool true)) []) : FinT Go.Proofs.Tryz.prog 17 81 0 Q .ret (cv3_d0 ) := FinT.ret (vs := [.bool true]) (l := []) (bs := []) (pl := []) (q := []) (fun u => by kernel_rfl) (by kernel_rfl) pls_nil hq
theorem cv3_s  (u : Nat → Value) : (codesO Tryz.prog (callT Tryz.prog (tblL tblN) 1000 60) 1000 ((Lpenstocklaw23_awake.drop 6).take 1000) (frU 81 u cv2_15_d0.sl) (vsOf cv2_15_d0.objs)).sym (leafT 81 0) (.leaf [0] [] []) = some (.leaf (.ret) (cv3_d0 )) := by kernel_rfl
theorem cv3  {Q : VEx → Desc → Prop} (l0 : Q (.ret) (cv3_d0 )) : TriL Go.Proofs.Tryz.prog 81 0 (Lpenstocklaw23_awake.drop 6) cv2_15_d0 Q :=
  TriL.tree plainN mixed callsN (m := 1000) (l := (Lpenstocklaw23_awake.drop 6)) (d := cv2_15_d0) (fun u => cv3_s  u) (Tree.mkLeaf (l0 ))

end Go.Proofs.YtdbjloigfkckfaaGreatDoor
