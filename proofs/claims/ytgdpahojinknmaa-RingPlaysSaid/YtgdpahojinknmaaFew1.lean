/- Pieces of code, run by program. -/
import Derived.Test.YtgdpahojinknmaaCall0
import Derived.KernelRfl
namespace Go.Proofs.Ytgdpahojinknmaa
open Go Vm Go.RowKit
set_option linter.unusedVariables false
set_option linter.unusedSimpArgs false
set_option maxRecDepth 100000

/-- An act of law 1. -/
structure Act1 where
  d : Int
  b : ByteArray
def act1 (x : Act1) : List SV := [.val (.int .i64 x.d), .cells x.b.size (bytesC x.b) 5]
def rows1 (l : List Act1) : VObj := .rows l.length 2 (fun i => act1 (l.getD i ⟨0, ByteArray.empty⟩))
noncomputable def Lpenstocklaw01_few : List Code := flat2 (bodyC Try.prog 11)
abbrev few1_a_d0 (l : List Act1) : Desc := ⟨[(2, .bool false)], [rows1 l]⟩
theorem few1_a_r0 (l : List Act1) {Q : CRes → List VObj → Prop}  (hq : Q (.ret (.bool false)) [rows1 l]) : FinT Go.Proofs.Try.prog 11 24 1 Q .ret (few1_a_d0 l) := FinT.ret (vs := [.bool false]) (l := []) (bs := [0]) (pl := []) (q := []) (fun u => by kernel_rfl) (by kernel_rfl) pls_nil hq
abbrev few1_a_d1 (l : List Act1) : Desc := ⟨[(0, .slice (some ⟨0, 0, none⟩) (List.length l) (List.length l)), (3, .int .i64 (0)), (4, .int .i64 (0))], [rows1 l]⟩
theorem few1_a_s (l : List Act1) (u : Nat → Value) : (codesO Try.prog (callT Try.prog tbl0 50 40) 50 (Lpenstocklaw01_few.take 5) (frU 24 u [(0, .slice (some ⟨0, 0, none⟩) l.length l.length)]) (vsOf [rows1 l])).sym (leafT 24 1) (.fork 1 (.leaf [2] [0] []) (.leaf [0, 3, 4] [0] [])) = some (.fork (decide ((↑(List.length l) : Int) > 500)) (.leaf (.ret) (few1_a_d0 l)) (.leaf (.normal) (few1_a_d1 l))) := by kernel_rfl
theorem few1_a (l : List Act1) {Q : VEx → Desc → Prop} (l0 : (decide ((↑(List.length l) : Int) > 500)) = true → Q (.ret) (few1_a_d0 l)) (l1 : (decide ((↑(List.length l) : Int) > 500)) = false → TriL Go.Proofs.Try.prog 24 1 (Lpenstocklaw01_few.drop 5) (few1_a_d1 l) Q) : TriL Go.Proofs.Try.prog 24 1 Lpenstocklaw01_few ⟨[(0, .slice (some ⟨0, 0, none⟩) l.length l.length)], [rows1 l]⟩ Q :=
  TriL.tree plainN mixed calls0 (m := 5) (l := Lpenstocklaw01_few) (d := ⟨[(0, .slice (some ⟨0, 0, none⟩) l.length l.length)], [rows1 l]⟩) (fun u => few1_a_s l u) (Tree.mkFork (fun h0 => (Tree.mkLeaf (l0 h0))) (fun h0 => (Tree.mkLeaf (l1 h0))))
abbrev few1_b_d0 (l : List Act1) (j n : Int) : Desc := ⟨[(2, .bool false)], [rows1 l]⟩
theorem few1_b_r0 (l : List Act1) (j n : Int) {Q : CRes → List VObj → Prop}  (hq : Q (.ret (.bool false)) [rows1 l]) : FinT Go.Proofs.Try.prog 11 24 1 Q .ret (few1_b_d0 l j n) := FinT.ret (vs := [.bool false]) (l := []) (bs := [0]) (pl := []) (q := []) (fun u => by kernel_rfl) (by kernel_rfl) pls_nil hq
abbrev few1_b_d1 (l : List Act1) (j n : Int) : Desc := ⟨[(0, .slice (some ⟨0, 0, none⟩) (List.length l) (List.length l)), (3, .int .i64 (IntKind.wrap IntKind.i64 (n + (↑(ByteArray.size (Act1.b (List.getD l (Int.toNat j) (Act1.mk 0 ByteArray.empty)))) : Int)))), (4, .int .i64 (IntKind.wrap IntKind.i64 (j + 1)))], [rows1 l]⟩
abbrev few1_b_d2 (l : List Act1) (j n : Int) : Desc := ⟨[], [rows1 l]⟩
theorem few1_b_s (l : List Act1) (j n : Int) (u : Nat → Value) : (codesO Try.prog (callT Try.prog tbl0 50 40) 50 ((flat2 (inner (flat2 (inner (Lpenstocklaw01_few.drop 5))))).take 1000) (frU 24 u [(0, .slice (some ⟨0, 0, none⟩) l.length l.length), (3, .int .i64 n), (4, .int .i64 j)]) (vsOf [rows1 l])).sym (leafT 24 1) (.fork 1 (.need 0 true (.need 0 true (.need 0 true (.fork 2 (.leaf [2] [0] []) (.leaf [0, 3, 4] [0] []))))) (.leaf [] [0] [])) = some (.fork (decide (j < (↑(List.length l) : Int))) (.need (decide (0 ≤ j)) true (.need (Nat.blt (Int.toNat j) (List.length l)) true (.need (Nat.blt (Int.toNat j) (List.length l)) true (.fork (decide (IntKind.wrap IntKind.i64 (n + (↑(ByteArray.size (Act1.b (List.getD l (Int.toNat j) (Act1.mk 0 ByteArray.empty)))) : Int)) > 65536)) (.leaf (.ret) (few1_b_d0 l j n)) (.leaf (.normal) (few1_b_d1 l j n)))))) (.leaf (.exit 0) (few1_b_d2 l j n))) := by kernel_rfl
theorem few1_b (l : List Act1) (j n : Int) {Q : VEx → Desc → Prop} (n0 : (decide (j < (↑(List.length l) : Int))) = true → (decide (0 ≤ j)) = true) (n1 : (decide (j < (↑(List.length l) : Int))) = true → (Nat.blt (Int.toNat j) (List.length l)) = true) (l2 : (decide (j < (↑(List.length l) : Int))) = true → (decide (IntKind.wrap IntKind.i64 (n + (↑(ByteArray.size (Act1.b (List.getD l (Int.toNat j) (Act1.mk 0 ByteArray.empty)))) : Int)) > 65536)) = true → Q (.ret) (few1_b_d0 l j n)) (l3 : (decide (j < (↑(List.length l) : Int))) = true → (decide (IntKind.wrap IntKind.i64 (n + (↑(ByteArray.size (Act1.b (List.getD l (Int.toNat j) (Act1.mk 0 ByteArray.empty)))) : Int)) > 65536)) = false → Q .normal (few1_b_d1 l j n)) (l4 : (decide (j < (↑(List.length l) : Int))) = false → Q (.exit 0) (few1_b_d2 l j n)) : TriL Go.Proofs.Try.prog 24 1 (flat2 (inner (flat2 (inner (Lpenstocklaw01_few.drop 5))))) ⟨[(0, .slice (some ⟨0, 0, none⟩) l.length l.length), (3, .int .i64 n), (4, .int .i64 j)], [rows1 l]⟩ Q :=
  TriL.tree plainN mixed calls0 (m := 1000) (l := (flat2 (inner (flat2 (inner (Lpenstocklaw01_few.drop 5)))))) (d := ⟨[(0, .slice (some ⟨0, 0, none⟩) l.length l.length), (3, .int .i64 n), (4, .int .i64 j)], [rows1 l]⟩) (fun u => few1_b_s l j n u) (Tree.mkFork (fun h0 => (Tree.mkNeed (n0 h0) (Tree.mkNeed (n1 h0) (Tree.mkNeed (n1 h0) (Tree.mkFork (fun h1 => (Tree.mkLeaf (l2 h0 h1))) (fun h1 => (Tree.mkLeaf (TriL.done (by kernel_rfl) (l3 h0 h1))))))))) (fun h0 => (Tree.mkLeaf (l4 h0))))
abbrev few1_c_d0 (l : List Act1) : Desc := ⟨[(2, .bool true)], [rows1 l]⟩
theorem few1_c_r0 (l : List Act1) {Q : CRes → List VObj → Prop}  (hq : Q (.ret (.bool true)) [rows1 l]) : FinT Go.Proofs.Try.prog 11 24 1 Q .ret (few1_c_d0 l) := FinT.ret (vs := [.bool true]) (l := []) (bs := [0]) (pl := []) (q := []) (fun u => by kernel_rfl) (by kernel_rfl) pls_nil hq
theorem few1_c_s (l : List Act1) (u : Nat → Value) : (codesO Try.prog (callT Try.prog tbl0 50 40) 50 ((Lpenstocklaw01_few.drop 6).take 1000) (frU 24 u []) (vsOf [rows1 l])).sym (leafT 24 1) (.leaf [2] [0] []) = some (.leaf (.ret) (few1_c_d0 l)) := by kernel_rfl
theorem few1_c (l : List Act1) {Q : VEx → Desc → Prop} (l0 : Q (.ret) (few1_c_d0 l)) : TriL Go.Proofs.Try.prog 24 1 (Lpenstocklaw01_few.drop 6) ⟨[], [rows1 l]⟩ Q :=
  TriL.tree plainN mixed calls0 (m := 1000) (l := (Lpenstocklaw01_few.drop 6)) (d := ⟨[], [rows1 l]⟩) (fun u => few1_c_s l u) (Tree.mkLeaf (l0 ))

end Go.Proofs.Ytgdpahojinknmaa
