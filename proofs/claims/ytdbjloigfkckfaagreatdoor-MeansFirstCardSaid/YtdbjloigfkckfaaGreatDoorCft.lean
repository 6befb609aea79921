/- means.all at law 21's two examples: what it comes to. -/
import Derived.Test.YtdbjloigfkckfaaGreatDoorCf1
import Derived.Test.YtdbjloigfkckfaaGreatDoorCf2
import Derived.Test.YtdbjloigfkckfaaGreatDoorCf3
import Derived.Test.YtdbjloigfkckfaaGreatDoorCg1
import Derived.Test.YtdbjloigfkckfaaGreatDoorCg2
import Derived.Test.YtdbjloigfkckfaaGreatDoorCg3
namespace Go.Proofs.YtdbjloigfkckfaaGreatDoor
open Go Vm Go.RowKit
set_option linter.unusedVariables false
set_option maxRecDepth 100000

abbrev ca_t : Told1 := ⟨[.agg #[.slice (some ⟨0, 0, none⟩) 4 4, .slice (some ⟨1, 0, none⟩) 4 4], .agg #[.slice (some ⟨2, 0, none⟩) 1 1, .slice none 0 0, .slice none 0 0, .slice none 0 0]], [.cells [.int .i64 1, .int .i64 0, .slice none 0 0, .slice none 0 0, .int .i64 15, .int .i64 2, .slice none 0 0, .slice none 0 0, .int .i64 13, .int .i64 2, .slice (some ⟨3, 0, none⟩) 1 1, .slice none 0 0, .int .i64 2, .int .i64 0, .slice none 0 0, .slice none 0 0] 97 false, .cells [.int .i64 0, .int .i64 0, .int .i64 1, .int .i64 0, .int .i64 1, .int .i64 1, .int .i64 0, .int .i64 2, .int .i64 0, .int .i64 1, .int .i64 1, .int .i64 1, .int .i64 2, .int .i64 1, .int .i64 1, .int .i64 2, .int .i64 0, .int .i64 3, .int .i64 0, .int .i64 1] 99 false, .cells [.slice (some ⟨4, 0, none⟩) 4 4, .bool false, .int .i64 0, .slice none 0 0] 53 false, .cells [.int .u8 44] 5 false, .cells [.int .u8 97, .int .u8 10, .int .u8 98, .int .u8 10] 5 false], .ret (.tuple #[.slice (some ⟨5, 0, none⟩) (4) (4), .slice (some ⟨6, 0, none⟩) (1) (1), .int .i64 (0)]), [.cells ([.int .i64 (1), .int .i64 (0), .slice none (0) (0), .slice none (0) (0), .int .i64 (15), .int .i64 (2), .slice none (0) (0), .slice none (0) (0), .int .i64 (13), .int .i64 (2), .slice (some ⟨3, 0, none⟩) (1) (1), .slice none (0) (0), .int .i64 (2), .int .i64 (0), .slice none (0) (0), .slice none (0) (0)]) 97 false, .cells [.int .i64 0, .int .i64 0, .int .i64 1, .int .i64 0, .int .i64 1, .int .i64 1, .int .i64 0, .int .i64 2, .int .i64 0, .int .i64 1, .int .i64 1, .int .i64 1, .int .i64 2, .int .i64 1, .int .i64 1, .int .i64 2, .int .i64 0, .int .i64 3, .int .i64 0, .int .i64 1] 99 false, .cells ([.slice (some ⟨4, 0, none⟩) (4) (4), .bool false, .int .i64 (0), .slice none (0) (0)]) 53 false, .cells [.int .u8 44] 5 false, .cells [.int .u8 97, .int .u8 10, .int .u8 98, .int .u8 10] 5 false, .cells ([.slice (some ⟨7, 0, none⟩) (4) (4), .bool true, .int .i64 (0), .int .i64 (0), .int .i64 (0), .slice (some ⟨8, 0, none⟩) (4) (4), .bool true, .int .i64 (0), .int .i64 (0), .int .i64 (0), .slice (some ⟨9, 0, none⟩) (4) (4), .bool true, .int .i64 (0), .int .i64 (0), .int .i64 (0), .slice (some ⟨10, 0, none⟩) (8) (8), .bool true, .int .i64 (0), .int .i64 (0), .int .i64 (0)]) 60 false, .cells ([.slice (some ⟨11, 0, none⟩) (8) (8), .bool true, .int .i64 (0), .int .i64 (0), .int .i64 (0)]) 60 false, .cells [.int .u8 97, .int .u8 10, .int .u8 98, .int .u8 10] 5 false, .cells [.int .u8 97, .int .u8 10, .int .u8 98, .int .u8 10] 5 false, .cells [.int .u8 97, .int .u8 10, .int .u8 98, .int .u8 10] 5 false, .cells ([.int .u8 (97), .int .u8 (44), .int .u8 (97), .int .u8 (10), .int .u8 (98), .int .u8 (44), .int .u8 (98), .int .u8 (10)]) 5 false, .cells ([.int .u8 (97), .int .u8 (44), .int .u8 (97), .int .u8 (10), .int .u8 (98), .int .u8 (44), .int .u8 (98), .int .u8 (10)]) 5 false]⟩
noncomputable def caD1 : Nat → Desc
  | 0 => ca0_d0
  | 1 => ca1_0_d0
  | 2 => ca1_1_d0
  | 3 => ca1_2_d0
  | _ => ca1_3_d0
theorem caL1 {Q : VEx → Desc → Prop} (h : Q (.exit 0) ca1_4_d0) : TriL Tryz.prog 116 5 (flat2 (inner (Lmeans_all.drop 6))) ca0_d0 Q := by
  refine TriL.iters caD1 4 (by kernel_rfl) fun i hi => ?_
  match i, hi with
  | 0, _ => exact ca1_0 (QI.next (by decide) rfl)
  | 1, _ => exact ca1_1 (QI.next (by decide) rfl)
  | 2, _ => exact ca1_2 (QI.next (by decide) rfl)
  | 3, _ => exact ca1_3 (QI.next (by decide) rfl)
  | 4, _ => exact ca1_4 (QI.exit h)
  | n + 5, hi => exact absurd hi (by omega)
noncomputable def caD3 : Nat → Desc
  | 0 => ca2_d0
  | 1 => ca3_0_d0
  | 2 => ca3_1_d0
  | 3 => ca3_2_d0
  | _ => ca3_3_d0
theorem caL3 {Q : VEx → Desc → Prop} (h : Q (.exit 2) ca3_4_d0) : TriL Tryz.prog 116 5 (flat2 (inner (Lmeans_all.drop 10))) ca2_d0 Q := by
  refine TriL.iters caD3 4 (by kernel_rfl) fun i hi => ?_
  match i, hi with
  | 0, _ => exact ca3_0 (QI.next (by decide) rfl)
  | 1, _ => exact ca3_1 (QI.next (by decide) rfl)
  | 2, _ => exact ca3_2 (QI.next (by decide) rfl)
  | 3, _ => exact ca3_3 (QI.next (by decide) rfl)
  | 4, _ => exact ca3_4 (QI.exit h)
  | n + 5, hi => exact absurd hi (by omega)
noncomputable def caD5 : Nat → Desc
  | 0 => ca4_d0
  | 1 => ca5_0_d0
  | 2 => ca5_1_d0
  | 3 => ca5_2_d0
  | _ => ca5_3_d0
theorem caL5 {Q : VEx → Desc → Prop} (h : Q (.exit 6) ca5_4_d0) : TriL Tryz.prog 116 5 (flat2 (inner (Lmeans_all.drop 12))) ca4_d0 Q := by
  refine TriL.iters caD5 4 (by kernel_rfl) fun i hi => ?_
  match i, hi with
  | 0, _ => exact ca5_0 (QI.next (by decide) rfl)
  | 1, _ => exact ca5_1 (QI.next (by decide) rfl)
  | 2, _ => exact ca5_2 (QI.next (by decide) rfl)
  | 3, _ => exact ca5_3 (QI.next (by decide) rfl)
  | 4, _ => exact ca5_4 (QI.exit h)
  | n + 5, hi => exact absurd hi (by omega)
theorem ca_fn : FnT Tryz.prog 42 ca_t.args ca_t.objs fun r o => r = ca_t.r ∧ o = ca_t.out := by
  refine FnT.ofT (n := slotsC Tryz.prog 42) (by kernel_rfl) ?_
  refine ca0 ?_
  refine TriL.blockAt 6 0 (by kernel_rfl) ?_
  refine caL1 (QB.hit ?_)
  refine ca2 ?_
  rw [List.drop_drop]
  refine TriL.blockAt 10 2 (by kernel_rfl) ?_
  refine caL3 (QB.hit ?_)
  refine ca4 ?_
  rw [List.drop_drop]
  refine TriL.blockAt 12 6 (by kernel_rfl) ?_
  refine caL5 (QB.hit ?_)
  exact ca6 (ca6_r0 ⟨rfl, rfl⟩)

abbrev cd_t : Told1 := ⟨[.agg #[.slice (some ⟨0, 0, none⟩) 4 4, .slice (some ⟨1, 0, none⟩) 4 4], .agg #[.slice (some ⟨2, 0, none⟩) 1 1, .slice none 0 0, .slice none 0 0, .slice none 0 0]], [.cells [.int .i64 1, .int .i64 0, .slice none 0 0, .slice none 0 0, .int .i64 15, .int .i64 2, .slice none 0 0, .slice none 0 0, .int .i64 13, .int .i64 2, .slice (some ⟨3, 0, none⟩) 1 1, .slice none 0 0, .int .i64 2, .int .i64 0, .slice none 0 0, .slice none 0 0] 97 false, .cells [.int .i64 0, .int .i64 0, .int .i64 1, .int .i64 0, .int .i64 1, .int .i64 1, .int .i64 0, .int .i64 2, .int .i64 0, .int .i64 1, .int .i64 1, .int .i64 1, .int .i64 2, .int .i64 1, .int .i64 1, .int .i64 2, .int .i64 0, .int .i64 3, .int .i64 0, .int .i64 1] 99 false, .cells [.slice (some ⟨4, 0, none⟩) 3 3, .bool true, .int .i64 4, .slice none 0 0] 53 false, .cells [.int .u8 44] 5 false, .cells [.int .u8 97, .int .u8 10, .int .u8 98] 5 false], .ret (.tuple #[.slice (some ⟨5, 0, none⟩) (4) (4), .slice (some ⟨6, 0, none⟩) (1) (1), .int .i64 (0)]), [.cells ([.int .i64 (1), .int .i64 (0), .slice none (0) (0), .slice none (0) (0), .int .i64 (15), .int .i64 (2), .slice none (0) (0), .slice none (0) (0), .int .i64 (13), .int .i64 (2), .slice (some ⟨3, 0, none⟩) (1) (1), .slice none (0) (0), .int .i64 (2), .int .i64 (0), .slice none (0) (0), .slice none (0) (0)]) 97 false, .cells [.int .i64 0, .int .i64 0, .int .i64 1, .int .i64 0, .int .i64 1, .int .i64 1, .int .i64 0, .int .i64 2, .int .i64 0, .int .i64 1, .int .i64 1, .int .i64 1, .int .i64 2, .int .i64 1, .int .i64 1, .int .i64 2, .int .i64 0, .int .i64 3, .int .i64 0, .int .i64 1] 99 false, .cells ([.slice (some ⟨4, 0, none⟩) (3) (3), .bool true, .int .i64 (4), .slice none (0) (0)]) 53 false, .cells [.int .u8 44] 5 false, .cells [.int .u8 97, .int .u8 10, .int .u8 98] 5 false, .cells ([.slice (some ⟨7, 0, none⟩) (3) (3), .bool false, .int .i64 (25), .int .i64 (0), .int .i64 (4), .slice (some ⟨8, 0, none⟩) (3) (3), .bool false, .int .i64 (25), .int .i64 (0), .int .i64 (4), .slice (some ⟨9, 0, none⟩) (3) (3), .bool false, .int .i64 (25), .int .i64 (0), .int .i64 (4), .slice (some ⟨10, 0, none⟩) (4) (4), .bool false, .int .i64 (25), .int .i64 (0), .int .i64 (4)]) 60 false, .cells ([.slice (some ⟨11, 0, none⟩) (4) (4), .bool false, .int .i64 (25), .int .i64 (0), .int .i64 (4)]) 60 false, .cells [.int .u8 97, .int .u8 10, .int .u8 98] 5 false, .cells [.int .u8 97, .int .u8 10, .int .u8 98] 5 false, .cells [.int .u8 97, .int .u8 10, .int .u8 98] 5 false, .cells ([.int .u8 (97), .int .u8 (44), .int .u8 (97), .int .u8 (10)]) 5 false, .cells ([.int .u8 (97), .int .u8 (44), .int .u8 (97), .int .u8 (10)]) 5 false]⟩
noncomputable def cdD1 : Nat → Desc
  | 0 => cd0_d0
  | 1 => cd1_0_d0
  | 2 => cd1_1_d0
  | 3 => cd1_2_d0
  | _ => cd1_3_d0
theorem cdL1 {Q : VEx → Desc → Prop} (h : Q (.exit 0) cd1_4_d0) : TriL Tryz.prog 116 5 (flat2 (inner (Lmeans_all.drop 6))) cd0_d0 Q := by
  refine TriL.iters cdD1 4 (by kernel_rfl) fun i hi => ?_
  match i, hi with
  | 0, _ => exact cd1_0 (QI.next (by decide) rfl)
  | 1, _ => exact cd1_1 (QI.next (by decide) rfl)
  | 2, _ => exact cd1_2 (QI.next (by decide) rfl)
  | 3, _ => exact cd1_3 (QI.next (by decide) rfl)
  | 4, _ => exact cd1_4 (QI.exit h)
  | n + 5, hi => exact absurd hi (by omega)
noncomputable def cdD3 : Nat → Desc
  | 0 => cd2_d0
  | 1 => cd3_0_d0
  | 2 => cd3_1_d0
  | 3 => cd3_2_d0
  | _ => cd3_3_d0
theorem cdL3 {Q : VEx → Desc → Prop} (h : Q (.exit 2) cd3_4_d0) : TriL Tryz.prog 116 5 (flat2 (inner (Lmeans_all.drop 10))) cd2_d0 Q := by
  refine TriL.iters cdD3 4 (by kernel_rfl) fun i hi => ?_
  match i, hi with
  | 0, _ => exact cd3_0 (QI.next (by decide) rfl)
  | 1, _ => exact cd3_1 (QI.next (by decide) rfl)
  | 2, _ => exact cd3_2 (QI.next (by decide) rfl)
  | 3, _ => exact cd3_3 (QI.next (by decide) rfl)
  | 4, _ => exact cd3_4 (QI.exit h)
  | n + 5, hi => exact absurd hi (by omega)
noncomputable def cdD5 : Nat → Desc
  | 0 => cd4_d0
  | 1 => cd5_0_d0
  | 2 => cd5_1_d0
  | 3 => cd5_2_d0
  | _ => cd5_3_d0
theorem cdL5 {Q : VEx → Desc → Prop} (h : Q (.exit 6) cd5_4_d0) : TriL Tryz.prog 116 5 (flat2 (inner (Lmeans_all.drop 12))) cd4_d0 Q := by
  refine TriL.iters cdD5 4 (by kernel_rfl) fun i hi => ?_
  match i, hi with
  | 0, _ => exact cd5_0 (QI.next (by decide) rfl)
  | 1, _ => exact cd5_1 (QI.next (by decide) rfl)
  | 2, _ => exact cd5_2 (QI.next (by decide) rfl)
  | 3, _ => exact cd5_3 (QI.next (by decide) rfl)
  | 4, _ => exact cd5_4 (QI.exit h)
  | n + 5, hi => exact absurd hi (by omega)
theorem cd_fn : FnT Tryz.prog 42 cd_t.args cd_t.objs fun r o => r = cd_t.r ∧ o = cd_t.out := by
  refine FnT.ofT (n := slotsC Tryz.prog 42) (by kernel_rfl) ?_
  refine cd0 ?_
  refine TriL.blockAt 6 0 (by kernel_rfl) ?_
  refine cdL1 (QB.hit ?_)
  refine cd2 ?_
  rw [List.drop_drop]
  refine TriL.blockAt 10 2 (by kernel_rfl) ?_
  refine cdL3 (QB.hit ?_)
  refine cd4 ?_
  rw [List.drop_drop]
  refine TriL.blockAt 12 6 (by kernel_rfl) ?_
  refine cdL5 (QB.hit ?_)
  exact cd6 (cd6_r0 ⟨rfl, rfl⟩)
end Go.Proofs.YtdbjloigfkckfaaGreatDoor
