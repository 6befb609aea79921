/- Law 23's awake, in pieces: what it comes to. -/
import Derived.Test.YtdbjloigfkckfaaGreatDoorCv1
import Derived.Test.YtdbjloigfkckfaaGreatDoorCv2
import Derived.Test.YtdbjloigfkckfaaGreatDoorCv3
import Derived.Test.YtdbjloigfkckfaaGreatDoorCv4
import Derived.Test.YtdbjloigfkckfaaGreatDoorCv5
import Derived.Test.YtdbjloigfkckfaaGreatDoorCv6
import Derived.Test.YtdbjloigfkckfaaGreatDoorCv7
import Derived.Test.YtdbjloigfkckfaaGreatDoorCv8
namespace Go.Proofs.YtdbjloigfkckfaaGreatDoor
open Go Vm Go.RowKit
set_option linter.unusedVariables false
set_option maxRecDepth 100000

abbrev cv_t : Told1 := ⟨[], [], .ret (.bool true), []⟩
noncomputable def cvD2 : Nat → Desc
  | 0 => cv1_d0
  | 1 => cv2_0_d0
  | 2 => cv2_1_d0
  | 3 => cv2_2_d0
  | 4 => cv2_3_d0
  | 5 => cv2_4_d0
  | 6 => cv2_5_d0
  | 7 => cv2_6_d0
  | 8 => cv2_7_d0
  | 9 => cv2_8_d0
  | 10 => cv2_9_d0
  | 11 => cv2_10_d0
  | 12 => cv2_11_d0
  | 13 => cv2_12_d0
  | 14 => cv2_13_d0
  | _ => cv2_14_d0
theorem cvL2 {Q : VEx → Desc → Prop} (h : Q (.exit 0) cv2_15_d0) : TriL Tryz.prog 81 0 (flat2 (inner (Lpenstocklaw23_awake.drop 5))) cv1_d0 Q := by
  refine TriL.iters cvD2 15 (by kernel_rfl) fun i hi => ?_
  match i, hi with
  | 0, _ => exact cv2_0 (QI.next (by decide) rfl)
  | 1, _ => exact cv2_1 (QI.next (by decide) rfl)
  | 2, _ => exact cv2_2 (QI.next (by decide) rfl)
  | 3, _ => exact cv2_3 (QI.next (by decide) rfl)
  | 4, _ => exact cv2_4 (QI.next (by decide) rfl)
  | 5, _ => exact cv2_5 (QI.next (by decide) rfl)
  | 6, _ => exact cv2_6 (QI.next (by decide) rfl)
  | 7, _ => exact cv2_7 (QI.next (by decide) rfl)
  | 8, _ => exact cv2_8 (QI.next (by decide) rfl)
  | 9, _ => exact cv2_9 (QI.next (by decide) rfl)
  | 10, _ => exact cv2_10 (QI.next (by decide) rfl)
  | 11, _ => exact cv2_11 (QI.next (by decide) rfl)
  | 12, _ => exact cv2_12 (QI.next (by decide) rfl)
  | 13, _ => exact cv2_13 (QI.next (by decide) rfl)
  | 14, _ => exact cv2_14 (QI.next (by decide) rfl)
  | 15, _ => exact cv2_15 (QI.exit h)
  | n + 16, hi => exact absurd hi (by omega)
theorem cv_fn : FnT Tryz.prog 17 cv_t.args cv_t.objs fun r o => r = cv_t.r ∧ o = cv_t.out := by
  refine FnT.ofT (n := slotsC Tryz.prog 17) (by kernel_rfl) ?_
  refine cv0 ?_
  refine cv1 ?_
  rw [List.drop_drop]
  refine TriL.blockAt 5 0 (by kernel_rfl) ?_
  refine cvL2 (QB.hit ?_)
  exact cv3 (cv3_r0 ⟨rfl, rfl⟩)
theorem aw23_fn : FnT Tryz.prog 17 [] [] fun r o => r = .ret (.bool true) ∧ o = [] := cv_fn
end Go.Proofs.YtdbjloigfkckfaaGreatDoor
