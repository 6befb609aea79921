/- Pieces of code, run by program. -/
import Derived.Test.YtgdpahojinknmaaCall0
import Derived.KernelRfl
namespace Go.Proofs.Ytgdpahojinknmaa
open Go Vm Go.RowKit
set_option linter.unusedVariables false
set_option linter.unusedSimpArgs false
set_option maxRecDepth 100000

/-- An act of law 22. -/
structure Act22 where
  d : Int
  b : ByteArray
  c : Int
  s : Int
  i : Int
def act22 (x : Act22) : List SV := [.val (.int .i64 x.d), .cells x.b.size (bytesC x.b) 5, .val (.int .i64 x.c), .val (.int .i64 x.s), .val (.int .i64 x.i)]
def rows22 (l : List Act22) : VObj := .rows l.length 5 (fun i => act22 (l.getD i ⟨0, ByteArray.empty, 0, 0, 0⟩))
noncomputable def Lpenstocklaw22_few : List Code := flat2 (bodyC Try.prog 25)
abbrev few22_a_d0 (l : List Act22) : Desc := ⟨[(2, .bool false)], [rows22 l]⟩
theorem few22_a_r0 (l : List Act22) {Q : CRes → List VObj → Prop}  (hq : Q (.ret (.bool false)) [rows22 l]) : FinT Go.Proofs.Try.prog 25 24 1 Q .ret (few22_a_d0 l) := FinT.ret (vs := [.bool false]) (l := []) (bs := [0]) (pl := []) (q := []) (fun u => by kernel_rfl) (by kernel_rfl) pls_nil hq
abbrev few22_a_d1 (l : List Act22) : Desc := ⟨[(0, .slice (some ⟨0, 0, none⟩) (List.length l) (List.length l)), (3, .int .i64 (0)), (4, .int .i64 (0))], [rows22 l]⟩
theorem few22_a_s (l : List Act22) (u : Nat → Value) : (codesO Try.prog (callT Try.prog tbl0 50 40) 50 (Lpenstocklaw22_few.take 5) (frU 24 u [(0, .slice (some ⟨0, 0, none⟩) l.length l.length)]) (vsOf [rows22 l])).sym (leafT 24 1) (.fork 1 (.leaf [2] [0] []) (.leaf [0, 3, 4] [0] [])) = some (.fork (decide ((↑(List.length l) : Int) > 500)) (.leaf (.ret) (few22_a_d0 l)) (.leaf (.normal) (few22_a_d1 l))) := by kernel_rfl
theorem few22_a (l : List Act22) {Q : VEx → Desc → Prop} (l0 : (decide ((↑(List.length l) : Int) > 500)) = true → Q (.ret) (few22_a_d0 l)) (l1 : (decide ((↑(List.length l) : Int) > 500)) = false → TriL Go.Proofs.Try.prog 24 1 (Lpenstocklaw22_few.drop 5) (few22_a_d1 l) Q) : TriL Go.Proofs.Try.prog 24 1 Lpenstocklaw22_few ⟨[(0, .slice (some ⟨0, 0, none⟩) l.length l.length)], [rows22 l]⟩ Q :=
  TriL.tree plainN mixed calls0 (m := 5) (l := Lpenstocklaw22_few) (d := ⟨[(0, .slice (some ⟨0, 0, none⟩) l.length l.length)], [rows22 l]⟩) (fun u => few22_a_s l u) (Tree.mkFork (fun h0 => (Tree.mkLeaf (l0 h0))) (fun h0 => (Tree.mkLeaf (l1 h0))))
abbrev few22_b_d0 (l : List Act22) (j n : Int) : Desc := ⟨[(2, .bool false)], [rows22 l]⟩
theorem few22_b_r0 (l : List Act22) (j n : Int) {Q : CRes → List VObj → Prop}  (hq : Q (.ret (.bool false)) [rows22 l]) : FinT Go.Proofs.Try.prog 25 24 1 Q .ret (few22_b_d0 l j n) := FinT.ret (vs := [.bool false]) (l := []) (bs := [0]) (pl := []) (q := []) (fun u => by kernel_rfl) (by kernel_rfl) pls_nil hq
abbrev few22_b_d1 (l : List Act22) (j n : Int) : Desc := ⟨[(0, .slice (some ⟨0, 0, none⟩) (List.length l) (List.length l)), (3, .int .i64 (IntKind.wrap IntKind.i64 (n + (↑(ByteArray.size (Act22.b (List.getD l (Int.toNat j) (Act22.mk 0 ByteArray.empty 0 0 0)))) : Int)))), (4, .int .i64 (IntKind.wrap IntKind.i64 (j + 1)))], [rows22 l]⟩
abbrev few22_b_d2 (l : List Act22) (j n : Int) : Desc := ⟨[], [rows22 l]⟩
theorem few22_b_s (l : List Act22) (j n : Int) (u : Nat → Value) : (codesO Try.prog (callT Try.prog tbl0 50 40) 50 ((flat2 (inner (flat2 (inner (Lpenstocklaw22_few.drop 5))))).take 1000) (frU 24 u [(0, .slice (some ⟨0, 0, none⟩) l.length l.length), (3, .int .i64 n), (4, .int .i64 j)]) (vsOf [rows22 l])).sym (leafT 24 1) (.fork 1 (.need 0 true (.need 0 true (.need 0 true (.fork 2 (.leaf [2] [0] []) (.leaf [0, 3, 4] [0] []))))) (.leaf [] [0] [])) = some (.fork (decide (j < (↑(List.length l) : Int))) (.need (decide (0 ≤ j)) true (.need (Nat.blt (Int.toNat j) (List.length l)) true (.need (Nat.blt (Int.toNat j) (List.length l)) true (.fork (decide (IntKind.wrap IntKind.i64 (n + (↑(ByteArray.size (Act22.b (List.getD l (Int.toNat j) (Act22.mk 0 ByteArray.empty 0 0 0)))) : Int)) > 65536)) (.leaf (.ret) (few22_b_d0 l j n)) (.leaf (.normal) (few22_b_d1 l j n)))))) (.leaf (.exit 0) (few22_b_d2 l j n))) := by kernel_rfl
theorem few22_b (l : List Act22) (j n : Int) {Q : VEx → Desc → Prop} (n0 : (decide (j < (↑(List.length l) : Int))) = true → (decide (0 ≤ j)) = true) (n1 : (decide (j < (↑(List.length l) : Int))) = true → (Nat.blt (Int.toNat j) (List.length l)) = true) (l2 : (decide (j < (↑(List.length l) : Int))) = true → (decide (IntKind.wrap IntKind.i64 (n + (↑(ByteArray.size (Act22.b (List.getD l (Int.toNat j) (Act22.mk 0 ByteArray.empty 0 0 0)))) : Int)) > 65536)) = true → Q (.ret) (few22_b_d0 l j n)) (l3 : (decide (j < (↑(List.length l) : Int))) = true → (decide (IntKind.wrap IntKind.i64 (n + (↑(ByteArray.size (Act22.b (List.getD l (Int.toNat j) (Act22.mk 0 ByteArray.empty 0 0 0)))) : Int)) > 65536)) = false → Q .normal (few22_b_d1 l j n)) (l4 : (decide (j < (↑(List.length l) : Int))) = false → Q (.exit 0) (few22_b_d2 l j n)) : TriL Go.Proofs.Try.prog 24 1 (flat2 (inner (flat2 (inner (Lpenstocklaw22_few.drop 5))))) ⟨[(0, .slice (some ⟨0, 0, none⟩) l.length l.length), (3, .int .i64 n), (4, .int .i64 j)], [rows22 l]⟩ Q :=
  TriL.tree plainN mixed calls0 (m := 1000) (l := (flat2 (inner (flat2 (inner (Lpenstocklaw22_few.drop 5)))))) (d := ⟨[(0, .slice (some ⟨0, 0, none⟩) l.length l.length), (3, .int .i64 n), (4, .int .i64 j)], [rows22 l]⟩) (fun u => few22_b_s l j n u) (Tree.mkFork (fun h0 => (Tree.mkNeed (n0 h0) (Tree.mkNeed (n1 h0) (Tree.mkNeed (n1 h0) (Tree.mkFork (fun h1 => (Tree.mkLeaf (l2 h0 h1))) (fun h1 => (Tree.mkLeaf (TriL.done (by kernel_rfl) (l3 h0 h1))))))))) (fun h0 => (Tree.mkLeaf (l4 h0))))
abbrev few22_c_d0 (l : List Act22) : Desc := ⟨[(2, .bool true)], [rows22 l]⟩
theorem few22_c_r0 (l : List Act22) {Q : CRes → List VObj → Prop}  (hq : Q (.ret (.bool true)) [rows22 l]) : FinT Go.Proofs.Try.prog 25 24 1 Q .ret (few22_c_d0 l) := FinT.ret (vs := [.bool true]) (l := []) (bs := [0]) (pl := []) (q := []) (fun u => by kernel_rfl) (by kernel_rfl) pls_nil hq
theorem few22_c_s (l : List Act22) (u : Nat → Value) : (codesO Try.prog (callT Try.prog tbl0 50 40) 50 ((Lpenstocklaw22_few.drop 6).take 1000) (frU 24 u []) (vsOf [rows22 l])).sym (leafT 24 1) (.leaf [2] [0] []) = some (.leaf (.ret) (few22_c_d0 l)) := by kernel_rfl
theorem few22_c (l : List Act22) {Q : VEx → Desc → Prop} (l0 : Q (.ret) (few22_c_d0 l)) : TriL Go.Proofs.Try.prog 24 1 (Lpenstocklaw22_few.drop 6) ⟨[], [rows22 l]⟩ Q :=
  TriL.tree plainN mixed calls0 (m := 1000) (l := (Lpenstocklaw22_few.drop 6)) (d := ⟨[], [rows22 l]⟩) (fun u => few22_c_s l u) (Tree.mkLeaf (l0 ))

end Go.Proofs.Ytgdpahojinknmaa
