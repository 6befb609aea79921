/- Part of the proof: Cps. -/
import Derived.Test.YtgepfmamfdmclaaGreatDoorJAl
import Derived.Test.YtgepfmamfdmclaaGreatDoorJAm
import Derived.Test.YtgepfmamfdmclaaGreatDoorJAn
import Derived.Test.YtgepfmamfdmclaaGreatDoorJAo
import Derived.Test.YtgepfmamfdmclaaGreatDoorJAp
set_option linter.unusedVariables false
set_option linter.unusedSimpArgs false
set_option maxRecDepth 100000
namespace Go.Proofs.YtgepfmamfdmclaaGreatDoor
open Go Vm Go.RowKit
abbrev cp_t : Told1 := ⟨[.string (ByteArray.mk #[115, 116, 97, 103, 101, 32, 49, 32, 48, 32, 45, 32, 45, 10, 115, 116, 97, 103, 101, 32, 51, 32, 49, 32, 45, 32, 45, 10, 115, 116, 97, 103, 101, 32, 50, 32, 48, 32, 45, 32, 45, 10, 100, 117, 99, 116, 32, 48, 32, 48, 32, 49, 32, 48, 32, 49, 10, 100, 117, 99, 116, 32, 49, 32, 48, 32, 50, 32, 48, 32, 49, 10, 115, 111, 117, 114, 99, 101, 32, 54, 49, 48, 97, 54, 50, 32, 48, 32, 48, 10])], [], .ret (.tuple #[.agg (List.toArray [.slice (some ⟨0, 0, none⟩) (3) (3), .slice (some ⟨1, 0, none⟩) (2) (2), .slice (some ⟨2, 0, none⟩) (1) (1), .slice none (0) (0), .slice none (0) (0), .slice none (0) (0), .slice none (0) (0)]), .int .i64 (0), .int .i64 (0)]), [.cells ([.int .i64 (1), .int .i64 (0), .slice none (0) (0), .slice none (0) (0), .int .i64 (3), .int .i64 (1), .slice none (0) (0), .slice none (0) (0), .int .i64 (2), .int .i64 (0), .slice none (0) (0), .slice none (0) (0)]) 54 false, .cells ([.int .i64 (0), .int .i64 (0), .int .i64 (1), .int .i64 (0), .int .i64 (1), .int .i64 (1), .int .i64 (0), .int .i64 (2), .int .i64 (0), .int .i64 (1)]) 56 false, .cells ([.slice (some ⟨3, 0, none⟩) (3) (3), .bool false, .int .i64 (0), .slice (some ⟨4, 1, none⟩) (0) (0)]) 58 false, .cells ([.int .u8 (97), .int .u8 (10), .int .u8 (98)]) 5 false, .cells ([.int .i64 (0)]) 3 false]⟩
noncomputable def cpD1 : Nat → Desc
 | 0 => cp0_d0
 | 1 => cp1_0_d0
 | 2 => cp1_1_d0
 | 3 => cp1_2_d0
 | 4 => cp1_3_d0
 | 5 => cp1_4_d0
 | 6 => cp1_5_d0
 | _ => cp1_6_d0
theorem cpL1 {Q : VEx → Desc → Prop} (h : Q (.exit 0) cp1_7_d0) : TriL Tryz.prog 29 0 (flat2 (inner (Lscript_Parse.drop 5))) cp0_d0 Q := by
 refine TriL.iters cpD1 7 (by kernel_rfl) fun i hi => ?_
 match i, hi with
 | 0, _ => exact cp1_0 (QI.next (by decide) rfl)
 | 1, _ => exact cp1_1 (QI.next (by decide) rfl)
 | 2, _ => exact cp1_2 (QI.next (by decide) rfl)
 | 3, _ => exact cp1_3 (QI.next (by decide) rfl)
 | 4, _ => exact cp1_4 (QI.next (by decide) rfl)
 | 5, _ => exact cp1_5 (QI.next (by decide) rfl)
 | 6, _ => exact cp1_6 (QI.next (by decide) rfl)
 | 7, _ => exact cp1_7 (QI.exit h)
 | n + 8, hi => exact absurd hi (by omega)
theorem cp_fn : FnT Tryz.prog 8 cp_t.args cp_t.objs fun r o => r = cp_t.r ∧ o = cp_t.out := by
 refine FnT.ofT (n := slotsC Tryz.prog 8) (by kernel_rfl) ?_
 refine cp0 ?_
 refine TriL.blockAt 5 0 (by kernel_rfl) ?_
 refine cpL1 (QB.hit ?_)
 exact cp2 (cp2_r0 ⟨rfl, rfl⟩)
end Go.Proofs.YtgepfmamfdmclaaGreatDoor
