/- Part of the proof: Crs. -/
import Derived.Test.YtgepfmamfdmclaaGreatDoorJAy
import Derived.Test.YtgepfmamfdmclaaGreatDoorJAz
import Derived.Test.YtgepfmamfdmclaaGreatDoorJBa
import Derived.Test.YtgepfmamfdmclaaGreatDoorJBb
import Derived.Test.YtgepfmamfdmclaaGreatDoorJBc
import Derived.Test.YtgepfmamfdmclaaGreatDoorJBd
set_option linter.unusedVariables false
set_option linter.unusedSimpArgs false
set_option maxRecDepth 100000
namespace Go.Proofs.YtgepfmamfdmclaaGreatDoor
open Go Vm Go.RowKit
abbrev cr_t : Told1 := ⟨[.agg #[.slice (some ⟨0, 0, none⟩) 3 3, .slice (some ⟨1, 0, none⟩) 2 2], .agg #[.slice (some ⟨2, 0, none⟩) 1 1, .slice none 0 0, .slice none 0 0, .slice none 0 0], .slice none 0 0], [.cells [.int .i64 1, .int .i64 0, .slice none 0 0, .slice none 0 0, .int .i64 3, .int .i64 1, .slice none 0 0, .slice none 0 0, .int .i64 2, .int .i64 0, .slice none 0 0, .slice none 0 0] 54 false, .cells [.int .i64 0, .int .i64 0, .int .i64 1, .int .i64 0, .int .i64 1, .int .i64 1, .int .i64 0, .int .i64 2, .int .i64 0, .int .i64 1] 56 false, .cells [.slice (some ⟨3, 0, none⟩) 3 3, .bool false, .int .i64 0, .slice (some ⟨4, 1, none⟩) 0 0] 58 false, .cells [.int .u8 97, .int .u8 10, .int .u8 98] 5 false, .cells [.int .i64 0] 3 false], .ret (.tuple #[.agg (List.toArray [.slice (some ⟨5, 0, none⟩) (1) (1), .int .i64 (0), .int .i64 (0), .int .i64 (0), .slice (some ⟨6, 0, none⟩) (2) (2), .slice (some ⟨7, 0, none⟩) (2) (2), .int .i64 (8), .slice none (0) (0)]), .int .i64 (0)]), [.cells [.int .i64 1, .int .i64 0, .slice none 0 0, .slice none 0 0, .int .i64 3, .int .i64 1, .slice none 0 0, .slice none 0 0, .int .i64 2, .int .i64 0, .slice none 0 0, .slice none 0 0] 54 false, .cells [.int .i64 0, .int .i64 0, .int .i64 1, .int .i64 0, .int .i64 1, .int .i64 1, .int .i64 0, .int .i64 2, .int .i64 0, .int .i64 1] 56 false, .cells ([.slice (some ⟨3, 0, none⟩) (3) (3), .bool false, .int .i64 (0), .slice (some ⟨4, 1, none⟩) (0) (0)]) 58 false, .cells [.int .u8 97, .int .u8 10, .int .u8 98] 5 false, .cells [.int .i64 0] 3 false, .cells ([.slice (some ⟨8, 0, none⟩) (2) (2), .bool true, .int .i64 (0), .int .i64 (0), .int .i64 (0)]) 116 false, .cells ([.int .i64 (1), .int .i64 (1)]) 3 false, .cells ([.int .i64 (1), .int .i64 (1), .int .i64 (1), .int .i64 (1), .int .i64 (1), .int .i64 (0), .int .i64 (3), .int .i64 (1), .int .i64 (1), .int .i64 (1), .int .i64 (1), .int .i64 (1), .int .i64 (0), .int .i64 (2)]) 119 false, .cells ([.int .u8 (97), .int .u8 (10)]) 5 false]⟩
noncomputable def crD1 : Nat → Desc
 | 0 => cr0_d0
 | 1 => cr1_0_d0
 | 2 => cr1_1_d0
 | 3 => cr1_2_d0
 | 4 => cr1_3_d0
 | 5 => cr1_4_d0
 | 6 => cr1_5_d0
 | 7 => cr1_6_d0
 | _ => cr1_7_d0
theorem crL1 {Q : VEx → Desc → Prop} (h : Q (.exit 0) cr1_8_d0) : TriL Tryz.prog 82 5 (flat2 (inner (Lplay_Run.drop 5))) cr0_d0 Q := by
 refine TriL.iters crD1 8 (by kernel_rfl) fun i hi => ?_
 match i, hi with
 | 0, _ => exact cr1_0 (QI.next (by decide) rfl)
 | 1, _ => exact cr1_1 (QI.next (by decide) rfl)
 | 2, _ => exact cr1_2 (QI.next (by decide) rfl)
 | 3, _ => exact cr1_3 (QI.next (by decide) rfl)
 | 4, _ => exact cr1_4 (QI.next (by decide) rfl)
 | 5, _ => exact cr1_5 (QI.next (by decide) rfl)
 | 6, _ => exact cr1_6 (QI.next (by decide) rfl)
 | 7, _ => exact cr1_7 (QI.next (by decide) rfl)
 | 8, _ => exact cr1_8 (QI.exit h)
 | n + 9, hi => exact absurd hi (by omega)
noncomputable def crD3 : Nat → Desc
 | 0 => cr2_d0
 | 1 => cr3_0_d0
 | _ => cr3_1_d0
theorem crL3 {Q : VEx → Desc → Prop} (h : Q (.exit 2) cr3_2_d0) : TriL Tryz.prog 82 5 (flat2 (inner (Lplay_Run.drop 12))) cr2_d0 Q := by
 refine TriL.iters crD3 2 (by kernel_rfl) fun i hi => ?_
 match i, hi with
 | 0, _ => exact cr3_0 (QI.next (by decide) rfl)
 | 1, _ => exact cr3_1 (QI.next (by decide) rfl)
 | 2, _ => exact cr3_2 (QI.exit h)
 | n + 3, hi => exact absurd hi (by omega)
theorem cr_fn : FnT Tryz.prog 32 cr_t.args cr_t.objs fun r o => r = cr_t.r ∧ o = cr_t.out := by
 refine FnT.ofT (n := slotsC Tryz.prog 32) (by kernel_rfl) ?_
 refine cr0 ?_
 refine TriL.blockAt 5 0 (by kernel_rfl) ?_
 refine crL1 (QB.hit ?_)
 refine cr2 ?_
 rw [List.drop_drop]
 refine TriL.blockAt 12 2 (by kernel_rfl) ?_
 refine crL3 (QB.hit ?_)
 exact cr4 (cr4_r0 ⟨rfl, rfl⟩)
end Go.Proofs.YtgepfmamfdmclaaGreatDoor
