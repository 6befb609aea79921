/- Part of the proof: Cp5. -/
import Derived.Test.YtgepfmamfdmclaaGreatDoorJAd
import Derived.Test.YtgepfmamfdmclaaGreatDoorJAk
import Derived.KernelRfl
set_option linter.unusedVariables false
set_option linter.unusedSimpArgs false
set_option maxRecDepth 100000
namespace Go.Proofs.YtgepfmamfdmclaaGreatDoor
open Go Vm Go.RowKit
set_option maxHeartbeats 8000000
theorem cp1_6  {Q : VEx → Desc → Prop} (l0 : Q .normal (cp1_6_d0 )) : TriL Go.Proofs.Tryz.prog 29 0 (flat2 (inner (flat2 (inner (Lscript_Parse.drop 5))))) cp1_5_d0 Q :=
 TriL.tree plainN mixed callsP (lf := 1000) (m := 1000) (s := (.leaf [2, 5, 13, 14, 15] [0, 1, 2, 3, 4, 5, 6, 7] [])) (fun u => by kernel_rfl) (Tree.mkQ (TriL.done (by kernel_rfl) (l0 )))
theorem cp1_7  {Q : VEx → Desc → Prop} (l0 : Q (.exit 0) (cp1_7_d0 )) : TriL Go.Proofs.Tryz.prog 29 0 (flat2 (inner (flat2 (inner (Lscript_Parse.drop 5))))) cp1_6_d0 Q :=
 TriL.tree plainN mixed callsP (lf := 1000) (m := 1000) (s := (.leaf [2, 5] [0, 1, 3, 4, 5, 6, 7] [])) (fun u => by kernel_rfl) (Tree.mkE 0 (l0 ))
theorem cp2_r0 {Q : CRes → List VObj → Prop} (hq : Q (.ret (.tuple #[.agg (List.toArray [.slice (some ⟨0, 0, none⟩) (3) (3), .slice (some ⟨1, 0, none⟩) (2) (2), .slice (some ⟨2, 0, none⟩) (1) (1), .slice none (0) (0), .slice none (0) (0), .slice none (0) (0), .slice none (0) (0)]), .int .i64 (0), .int .i64 (0)])) [.cells ([.int .i64 (1), .int .i64 (0), .slice none (0) (0), .slice none (0) (0), .int .i64 (3), .int .i64 (1), .slice none (0) (0), .slice none (0) (0), .int .i64 (2), .int .i64 (0), .slice none (0) (0), .slice none (0) (0)]) 54 false, .cells ([.int .i64 (0), .int .i64 (0), .int .i64 (1), .int .i64 (0), .int .i64 (1), .int .i64 (1), .int .i64 (0), .int .i64 (2), .int .i64 (0), .int .i64 (1)]) 56 false, .cells ([.slice (some ⟨3, 0, none⟩) (3) (3), .bool false, .int .i64 (0), .slice (some ⟨4, 1, none⟩) (0) (0)]) 58 false, .cells ([.int .u8 (97), .int .u8 (10), .int .u8 (98)]) 5 false, .cells ([.int .i64 (0)]) 3 false]) : FinT Go.Proofs.Tryz.prog 8 29 0 Q .ret (cp2_d0 ) := FinT.ret (vs := [.agg (List.toArray [.slice (some ⟨1, 0, none⟩) (3) (3), .slice (some ⟨2, 0, none⟩) (2) (2), .slice (some ⟨3, 0, none⟩) (1) (1), .slice none (0) (0), .slice none (0) (0), .slice none (0) (0), .slice none (0) (0)]), .int .i64 (0), .int .i64 (0)]) (l := [0]) (bs := [1, 2, 3, 4, 5]) (pl := []) (q := []) (fun u => by kernel_rfl) (by kernel_rfl) pls_nil hq
theorem cp2  {Q : VEx → Desc → Prop} (l0 : Q (.ret) (cp2_d0 )) : TriL Go.Proofs.Tryz.prog 29 0 (Lscript_Parse.drop 6) cp1_7_d0 Q :=
 TriL.tree plainN mixed callsP (lf := 1000) (m := 1000) (s := (.leaf [2, 3, 4] [0, 2, 3, 4, 5, 6] [])) (fun u => by kernel_rfl) (Tree.mkR (l0 ))
end Go.Proofs.YtgepfmamfdmclaaGreatDoor
