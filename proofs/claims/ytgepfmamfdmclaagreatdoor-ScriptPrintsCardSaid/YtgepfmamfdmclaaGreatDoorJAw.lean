/- Part of the proof: Cqt. -/
import Derived.Test.YtgepfmamfdmclaaGreatDoorJAt
import Derived.Test.YtgepfmamfdmclaaGreatDoorJAu
import Derived.Test.YtgepfmamfdmclaaGreatDoorJAv
set_option linter.unusedVariables false
set_option linter.unusedSimpArgs false
set_option maxRecDepth 100000
namespace Go.Proofs.YtgepfmamfdmclaaGreatDoor
open Go Vm Go.RowKit
abbrev cq_t : Told1 := ⟨[.agg #[.slice (some ⟨0, 0, none⟩) 3 3, .slice (some ⟨1, 0, none⟩) 2 2], .agg #[.slice (some ⟨2, 0, none⟩) 1 1, .slice none 0 0, .slice none 0 0, .slice none 0 0]], [.cells [.int .i64 1, .int .i64 0, .slice none 0 0, .slice none 0 0, .int .i64 3, .int .i64 1, .slice none 0 0, .slice none 0 0, .int .i64 2, .int .i64 0, .slice none 0 0, .slice none 0 0] 54 false, .cells [.int .i64 0, .int .i64 0, .int .i64 1, .int .i64 0, .int .i64 1, .int .i64 1, .int .i64 0, .int .i64 2, .int .i64 0, .int .i64 1] 56 false, .cells [.slice (some ⟨3, 0, none⟩) 3 3, .bool false, .int .i64 0, .slice (some ⟨4, 1, none⟩) 0 0] 58 false, .cells [.int .u8 97, .int .u8 10, .int .u8 98] 5 false, .cells [.int .i64 0] 3 false], .ret (.tuple #[.pointer (some ⟨5, 0, none⟩), .int .i64 (0)]), [.cells [.int .i64 1, .int .i64 0, .slice none 0 0, .slice none 0 0, .int .i64 3, .int .i64 1, .slice none 0 0, .slice none 0 0, .int .i64 2, .int .i64 0, .slice none 0 0, .slice none 0 0] 54 false, .cells [.int .i64 0, .int .i64 0, .int .i64 1, .int .i64 0, .int .i64 1, .int .i64 1, .int .i64 0, .int .i64 2, .int .i64 0, .int .i64 1] 56 false, .cells ([.slice (some ⟨3, 0, none⟩) (3) (3), .bool false, .int .i64 (0), .slice (some ⟨4, 1, none⟩) (0) (0)]) 58 false, .cells [.int .u8 97, .int .u8 10, .int .u8 98] 5 false, .cells [.int .i64 0] 3 false, .cells ([.slice (some ⟨6, 0, none⟩) (3) (3), .slice (some ⟨7, 0, none⟩) (2) (2)]) 133 false, .cells ([.pointer (some ⟨8, 0, none⟩), .pointer (some ⟨9, 0, none⟩), .pointer (some ⟨10, 0, none⟩)]) 137 false, .cells ([.string (ByteArray.mk #[]), .string (ByteArray.mk #[]), .string (ByteArray.mk #[]), .string (ByteArray.mk #[]), .string (ByteArray.mk #[]), .string (ByteArray.mk #[]), .string (ByteArray.mk #[]), .string (ByteArray.mk #[]), .int .i64 (0), .int .i64 (0), .int .i64 (1), .int .i64 (0), .int .i64 (0), .int .i64 (0), .int .i64 (0), .bool false, .int .i64 (1), .int .i64 (0), .int .i64 (0), .int .i64 (0), .int .i64 (0), .int .i64 (0), .int .i64 (0), .string (ByteArray.mk #[]), .string (ByteArray.mk #[]), .string (ByteArray.mk #[]), .string (ByteArray.mk #[]), .string (ByteArray.mk #[]), .string (ByteArray.mk #[]), .string (ByteArray.mk #[]), .string (ByteArray.mk #[]), .int .i64 (0), .int .i64 (0), .int .i64 (1), .int .i64 (0), .int .i64 (0), .int .i64 (0), .int .i64 (0), .bool false, .int .i64 (1), .int .i64 (0), .int .i64 (0), .int .i64 (0), .int .i64 (0), .int .i64 (0), .int .i64 (0)]) 145 false, .cells ([.pointer (some ⟨11, 0, none⟩), .slice (some ⟨12, 0, none⟩) (0) (0), .slice (some ⟨13, 0, none⟩) (1) (1), .bool false, .bool false, .int .i64 (0), .int .i64 (0), .int .i64 (0)]) 140 false, .cells ([.pointer (some ⟨14, 0, none⟩), .slice (some ⟨15, 0, none⟩) (1) (1), .slice (some ⟨16, 0, none⟩) (1) (1), .bool false, .bool false, .int .i64 (0), .int .i64 (0), .int .i64 (0)]) 140 false, .cells ([.pointer (some ⟨17, 0, none⟩), .slice (some ⟨18, 0, none⟩) (1) (1), .slice (some ⟨19, 0, none⟩) (0) (0), .bool true, .bool false, .int .i64 (0), .int .i64 (0), .int .i64 (0)]) 140 false, .cells ([.int .i64 (0), .int .i64 (1), .nilIface, .pointer none, .pointer none, .pointer none, .pointer none, .pointer none, .int .i64 (0), .int .i64 (0), .int .i64 (0), .int .i64 (0), .int .i64 (0), .int .i64 (0), .int .i64 (0), .int .i64 (0), .int .i64 (0), .int .i64 (0), .int .i64 (0), .int .i64 (0), .slice none (0) (0), .slice (some ⟨20, 0, none⟩) (3) (3), .slice (some ⟨21, 0, none⟩) (0) (0), .int .i64 (0), .pointer none, .int .i64 (0), .int .i64 (0), .int .i64 (0), .int .i64 (0), .int .i64 (0)]) 186 false, .cells ([]) 3 false, .cells [.int .i64 0] 3 false, .cells ([.int .i64 (1), .int .i64 (3), .iface 287 (.pointer (some ⟨22, 0, none⟩)), .pointer none, .pointer none, .pointer none, .pointer none, .pointer none, .int .i64 (0), .int .i64 (0), .int .i64 (0), .int .i64 (0), .int .i64 (0), .int .i64 (0), .int .i64 (0), .int .i64 (0), .int .i64 (0), .int .i64 (0), .int .i64 (0), .int .i64 (0), .slice none (0) (0), .slice none (0) (0), .slice none (0) (0), .int .i64 (0), .pointer none, .int .i64 (0), .int .i64 (0), .int .i64 (0), .int .i64 (0), .int .i64 (0)]) 186 false, .cells [.int .i64 0] 3 false, .cells ([.int .i64 (1)]) 3 false, .cells ([.int .i64 (2), .int .i64 (2), .nilIface, .pointer none, .pointer none, .pointer none, .pointer none, .pointer none, .int .i64 (0), .int .i64 (0), .int .i64 (0), .int .i64 (0), .int .i64 (0), .int .i64 (0), .int .i64 (0), .int .i64 (0), .int .i64 (0), .int .i64 (0), .int .i64 (0), .int .i64 (0), .slice none (0) (0), .slice none (0) (0), .slice none (0) (0), .int .i64 (0), .pointer none, .int .i64 (0), .int .i64 (0), .int .i64 (0), .int .i64 (0), .int .i64 (0)]) 186 false, .cells ([.int .i64 (1)]) 3 false, .cells ([]) 3 false, .cells [.int .u8 97, .int .u8 10, .int .u8 98] 5 false, .cells ([]) 3 false, .cells ([.int .i64 (0), .bool false, .bool false, .int .u8 (0), .int .u8 (0), .int .u8 (0), .int .u8 (0), .int .u8 (0), .int .u8 (0), .int .u8 (0), .int .u8 (0), .int .u8 (0), .int .u8 (0), .int .u8 (0), .int .u8 (0), .int .u8 (0), .int .u8 (0), .int .u8 (0), .int .u8 (0), .int .u8 (0), .int .u8 (0), .int .u8 (0), .int .u8 (0), .int .u8 (0), .int .u8 (0), .int .u8 (0), .int .u8 (0), .int .u8 (0), .int .u8 (0), .int .u8 (0), .int .u8 (0), .int .u8 (0), .int .u8 (0), .int .u8 (0), .int .u8 (0), .int .u8 (0), .int .u8 (0), .int .u8 (0), .int .u8 (0), .int .u8 (0), .int .u8 (0), .int .u8 (0), .int .u8 (0), .int .u8 (0), .int .u8 (0), .int .u8 (0), .int .u8 (0), .int .u8 (0), .int .u8 (0), .int .u8 (0), .int .u8 (0), .int .u8 (0), .int .u8 (0), .int .u8 (0), .int .u8 (0), .int .u8 (0), .int .u8 (0), .int .u8 (0), .int .u8 (0), .int .u8 (0), .int .u8 (0), .int .u8 (0), .int .u8 (0), .int .u8 (0), .int .u8 (0), .int .u8 (0), .int .u8 (0), .int .i64 (0), .bool false, .func (.func 196) #[.pointer (some ⟨22, 0, none⟩)] #[], .nilFunc, .int .i64 (1)]) 293 false]⟩
noncomputable def cqD1 : Nat → Desc
 | 0 => cq0_d0
 | 1 => cq1_0_d0
 | 2 => cq1_1_d0
 | _ => cq1_2_d0
theorem cqL1 {Q : VEx → Desc → Prop} (h : Q (.exit 0) cq1_3_d0) : TriL Tryz.prog 92 5 (flat2 (inner (Lworks_New.drop 6))) cq0_d0 Q := by
 refine TriL.iters cqD1 3 (by kernel_rfl) fun i hi => ?_
 match i, hi with
 | 0, _ => exact cq1_0 (QI.next (by decide) rfl)
 | 1, _ => exact cq1_1 (QI.next (by decide) rfl)
 | 2, _ => exact cq1_2 (QI.next (by decide) rfl)
 | 3, _ => exact cq1_3 (QI.exit h)
 | n + 4, hi => exact absurd hi (by omega)
noncomputable def cqD3 : Nat → Desc
 | 0 => cq2_d0
 | 1 => cq3_0_d0
 | _ => cq3_1_d0
theorem cqL3 {Q : VEx → Desc → Prop} (h : Q (.exit 2) cq3_2_d0) : TriL Tryz.prog 92 5 (flat2 (inner (Lworks_New.drop 8))) cq2_d0 Q := by
 refine TriL.iters cqD3 2 (by kernel_rfl) fun i hi => ?_
 match i, hi with
 | 0, _ => exact cq3_0 (QI.next (by decide) rfl)
 | 1, _ => exact cq3_1 (QI.next (by decide) rfl)
 | 2, _ => exact cq3_2 (QI.exit h)
 | n + 3, hi => exact absurd hi (by omega)
theorem cq_fn : FnT Tryz.prog 44 cq_t.args cq_t.objs fun r o => r = cq_t.r ∧ o = cq_t.out := by
 refine FnT.ofT (n := slotsC Tryz.prog 44) (by kernel_rfl) ?_
 refine cq0 ?_
 refine TriL.blockAt 6 0 (by kernel_rfl) ?_
 refine cqL1 (QB.hit ?_)
 refine cq2 ?_
 rw [List.drop_drop]
 refine TriL.blockAt 8 2 (by kernel_rfl) ?_
 refine cqL3 (QB.hit ?_)
 exact cq4 (cq4_r0 ⟨rfl, rfl⟩)
noncomputable def tblR : List (FuncId × Sum) := (44, Sum.ofR Tryz.prog (toldSpec [cq_t])) :: tblI
theorem callsR : CallsOk Tryz.prog (callT Tryz.prog (tblL tblR) 1000 60) :=
 callT_ok plainN mixed (tblL_ok (.cons (FnOk.told fun t ht => by
  rcases List.mem_cons.1 ht with rfl | ht
  ·exact cq_fn
  cases ht) (.cons (FnOk.told fun t ht => by
  rcases List.mem_cons.1 ht with rfl | ht
  ·exact ci_fn
  cases ht) .nil))) 1000 60
end Go.Proofs.YtgepfmamfdmclaaGreatDoor
