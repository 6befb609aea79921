/- Part of the proof: Cr6. -/
import Derived.Test.YtgepfmamfdmclaaGreatDoorJAw
import Derived.Test.YtgepfmamfdmclaaGreatDoorJAd
import Derived.Test.YtgepfmamfdmclaaGreatDoorJAx
import Derived.KernelRfl
set_option linter.unusedVariables false
set_option linter.unusedSimpArgs false
set_option maxRecDepth 100000
namespace Go.Proofs.YtgepfmamfdmclaaGreatDoor
open Go Vm Go.RowKit
set_option maxHeartbeats 8000000
theorem cr1_8  {Q : VEx → Desc → Prop} (l0 : Q (.exit 0) (cr1_8_d0 )) : TriL Go.Proofs.Tryz.prog 82 5 (flat2 (inner (flat2 (inner (Lplay_Run.drop 5))))) cr1_7_d0 Q :=
 TriL.tree plainN mixed callsR (lf := 1000) (m := 1000) (s := (.leaf [6, 10] [0, 1, 2, 3, 4, 5, 6, 7, 8, 9, 10, 11, 12, 13, 14, 15, 16, 17, 18, 19, 20, 21, 22, 23, 24, 25, 26, 27] [])) (fun u => by kernel_rfl) (Tree.mkE 0 (l0 ))
theorem cr2  {Q : VEx → Desc → Prop} (l0 : TriL Go.Proofs.Tryz.prog 82 5 ((Lplay_Run.drop 6).drop 6) (cr2_d0 ) Q) : TriL Go.Proofs.Tryz.prog 82 5 (Lplay_Run.drop 6) cr1_8_d0 Q :=
 TriL.tree plainN mixed callsR (lf := 1000) (m := 6) (s := (.leaf [6, 11, 67, 68, 69] [0, 1, 2, 3, 4, 5, 49, 48, 36, 32] [])) (fun u => by kernel_rfl) (Tree.mkQ (l0 ))
theorem cr3_0  {Q : VEx → Desc → Prop} (l0 : Q .normal (cr3_0_d0 )) : TriL Go.Proofs.Tryz.prog 82 5 (flat2 (inner (flat2 (inner (Lplay_Run.drop 12))))) cr2_d0 Q :=
 TriL.tree plainN mixed callsR (lf := 1000) (m := 1000) (s := (.leaf [6, 11, 67, 68, 69] [0, 1, 2, 3, 4, 5, 6, 7, 8, 12, 9] [])) (fun u => by kernel_rfl) (Tree.mkQ (TriL.done (by kernel_rfl) (l0 )))
theorem cr3_1  {Q : VEx → Desc → Prop} (l0 : Q .normal (cr3_1_d0 )) : TriL Go.Proofs.Tryz.prog 82 5 (flat2 (inner (flat2 (inner (Lplay_Run.drop 12))))) cr3_0_d0 Q :=
 TriL.tree plainN mixed callsR (lf := 1000) (m := 1000) (s := (.leaf [6, 11, 67, 68, 69] [0, 1, 2, 3, 4, 5, 6, 7, 8, 13, 10] [])) (fun u => by kernel_rfl) (Tree.mkQ (TriL.done (by kernel_rfl) (l0 )))
theorem cr3_2  {Q : VEx → Desc → Prop} (l0 : Q (.exit 2) (cr3_2_d0 )) : TriL Go.Proofs.Tryz.prog 82 5 (flat2 (inner (flat2 (inner (Lplay_Run.drop 12))))) cr3_1_d0 Q :=
 TriL.tree plainN mixed callsR (lf := 1000) (m := 1000) (s := (.leaf [6, 11] [0, 1, 2, 3, 4, 5, 6, 8, 9, 7, 10] [])) (fun u => by kernel_rfl) (Tree.mkE 2 (l0 ))
theorem cr4_r0 {Q : CRes → List VObj → Prop} (hq : Q (.ret (.tuple #[.agg (List.toArray [.slice (some ⟨5, 0, none⟩) (1) (1), .int .i64 (0), .int .i64 (0), .int .i64 (0), .slice (some ⟨6, 0, none⟩) (2) (2), .slice (some ⟨7, 0, none⟩) (2) (2), .int .i64 (8), .slice none (0) (0)]), .int .i64 (0)])) [.cells [.int .i64 1, .int .i64 0, .slice none 0 0, .slice none 0 0, .int .i64 3, .int .i64 1, .slice none 0 0, .slice none 0 0, .int .i64 2, .int .i64 0, .slice none 0 0, .slice none 0 0] 54 false, .cells [.int .i64 0, .int .i64 0, .int .i64 1, .int .i64 0, .int .i64 1, .int .i64 1, .int .i64 0, .int .i64 2, .int .i64 0, .int .i64 1] 56 false, .cells ([.slice (some ⟨3, 0, none⟩) (3) (3), .bool false, .int .i64 (0), .slice (some ⟨4, 1, none⟩) (0) (0)]) 58 false, .cells [.int .u8 97, .int .u8 10, .int .u8 98] 5 false, .cells [.int .i64 0] 3 false, .cells ([.slice (some ⟨8, 0, none⟩) (2) (2), .bool true, .int .i64 (0), .int .i64 (0), .int .i64 (0)]) 116 false, .cells ([.int .i64 (1), .int .i64 (1)]) 3 false, .cells ([.int .i64 (1), .int .i64 (1), .int .i64 (1), .int .i64 (1), .int .i64 (1), .int .i64 (0), .int .i64 (3), .int .i64 (1), .int .i64 (1), .int .i64 (1), .int .i64 (1), .int .i64 (1), .int .i64 (0), .int .i64 (2)]) 119 false, .cells ([.int .u8 (97), .int .u8 (10)]) 5 false]) : FinT Go.Proofs.Tryz.prog 32 82 5 Q .ret (cr4_d0 ) := FinT.ret (vs := [.agg (List.toArray [.slice (some ⟨6, 0, none⟩) (1) (1), .int .i64 (0), .int .i64 (0), .int .i64 (0), .slice (some ⟨7, 0, none⟩) (2) (2), .slice (some ⟨8, 0, none⟩) (2) (2), .int .i64 (8), .slice none (0) (0)]), .int .i64 (0)]) (l := [5]) (bs := [0, 1, 2, 3, 4, 6, 7, 8, 9]) (pl := []) (q := []) (fun u => by kernel_rfl) (by kernel_rfl) pls_nil hq
theorem cr4  {Q : VEx → Desc → Prop} (l0 : Q (.ret) (cr4_d0 )) : TriL Go.Proofs.Tryz.prog 82 5 (Lplay_Run.drop 13) cr3_2_d0 Q :=
 TriL.tree plainN mixed callsR (lf := 1000) (m := 1000) (s := (.leaf [6, 7] [0, 1, 2, 3, 4, 5, 7, 8, 9, 10] [])) (fun u => by kernel_rfl) (Tree.mkR (l0 ))
end Go.Proofs.YtgepfmamfdmclaaGreatDoor
