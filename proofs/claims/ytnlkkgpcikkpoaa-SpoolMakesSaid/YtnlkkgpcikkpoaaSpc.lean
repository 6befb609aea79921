/- slices.Clone of bytes. -/
import Derived.Test.YtnlkkgpcikkpoaaSps
import Derived.KernelRfl
namespace Go.Proofs.Ytnlkkgpcikkpoaa
open Go Vm Go.RowKit
set_option maxRecDepth 100000
noncomputable def Lslices_Clone___byte_byte_ : List Code := flat2 (bodyC Try.prog 30)
open Tree renaming mkNeed → mN, mkFork → mF, mkLeaf → mL
noncomputable abbrev spc_k0 : List Code := (Lslices_Clone___byte_byte_.drop 2)
noncomputable abbrev cl_a_d0 (b : ByteArray) (ro : Bool) : Desc := ⟨[(2, .slice (some ⟨1, 0, none⟩) (0 + b.size) (0 + b.size))], [.cells (bytesC b) 5 ro, .cells ([] ++ List.take (b.size * 1) (bytesC b)) 5 false]⟩
theorem cl_a_r0 (b : ByteArray) (ro : Bool) {Q : CRes → List VObj → Prop} (pl0 : List.all (bytesC b) isScal = true) (hq : Q (.ret (.slice (some ⟨1, 0, none⟩) (0 + b.size) (0 + b.size))) [.cells (bytesC b) 5 ro, .cells ([] ++ List.take (b.size * 1) (bytesC b)) 5 false]) : FinT Try.prog 30 8 1 Q .ret (cl_a_d0 b ro) := FinT.ret (vs := [.slice (some ⟨1, 0, none⟩) (0 + b.size) (0 + b.size)]) (l := []) (bs := [0, 1]) (pl := [0, 1]) (q := [bytesC b, [] ++ List.take (b.size * 1) (bytesC b)]) (fun u => by kernel_rfl) (by kernel_rfl) (pls_cons pl0 (pls_cons (by first | exact pl_u8 _ | assumption | exact pl_splice (by assumption) rfl _ | exact pl_splice (pl_u8 _) (pl_repl (by rfl) _) _ | exact pl_take (pl_drop (pl_strs _) _) _ | (simp; done)) pls_nil)) hq
noncomputable abbrev spc_i0 (b : ByteArray) (ro : Bool) : Desc := ⟨[(0, .slice (some ⟨0, 0, none⟩) b.size b.size)], [.cells (bytesC b) 5 ro]⟩
theorem cl_a_s (b : ByteArray) (ro : Bool) (u : Nat → Value) : (codesO Try.prog (callT Try.prog tbl0 50 40) 50 (Lslices_Clone___byte_byte_.take 1000) (frU 8 u (spc_i0 b ro).sl) (vsOf (spc_i0 b ro).objs)).sym (leafT 8 1) (.need 0 false (.need 0 true (.need 1 false (.need 0 true (.need 0 true (.need 0 true (.need 0 true (.leaf [2] [0, 2] [0, 2])))))))) = some (.need (Nat.blt 0 b.size) true (.need (Nat.ble (0 + b.size * 1) (List.length (bytesC b))) true (.need (Nat.ble (0 + b.size) 1000000) true (.need (List.all (List.take (b.size * 1) (bytesC b)) Value.oneCell') true (.need (Nat.beq (List.length (List.take (b.size * 1) (bytesC b))) (b.size * 1)) true (.need (List.all (bytesC b) isScal) true (.need (List.all ([] ++ List.take (b.size * 1) (bytesC b)) isScal) true (.leaf (.ret) (cl_a_d0 b ro))))))))) := by kernel_rfl
theorem cl_a (b : ByteArray) (ro : Bool) (hL : 0 < b.size) (hS : b.size ≤ 1000) {Q : VEx → Desc → Prop} (n0 : (List.all (List.take (b.size * 1) (bytesC b)) Value.oneCell') = true) (pl0 : List.all (bytesC b) isScal = true) (l2 : Q (.ret) (cl_a_d0 b ro)) : TriL Try.prog 8 1 Lslices_Clone___byte_byte_ (spc_i0 b ro) Q :=
  TriL.tree plainN mixed calls0 (m := 1000) (l := Lslices_Clone___byte_byte_) (d := (spc_i0 b ro)) (fun u => cl_a_s b ro u) (mN (by simp at hL hS ⊢ <;> omega) (mN (by simp) (mN (by simp at hL hS ⊢ <;> omega) (mN n0 (mN (by simp) (mN pl0 (mN (by first | exact pl_u8 _ | assumption | exact pl_splice (by assumption) rfl _ | exact pl_splice (pl_u8 _) (pl_repl (by rfl) _) _ | exact pl_take (pl_drop (pl_strs _) _) _ | (simp; done)) (mL l2))))))))
noncomputable abbrev cl_0_d0 (x ro : Bool) : Desc := ⟨[(0, .slice (some ⟨0, 0, none⟩) (0) (0))], [.cells [] 5 ro]⟩
noncomputable abbrev spc_i1 (x ro : Bool) : Desc := ⟨[(0, .slice (some ⟨0, 0, none⟩) 0 0)], [.cells [] 5 ro]⟩
theorem cl_0_s (x ro : Bool) (u : Nat → Value) : (codesO Try.prog (callT Try.prog tbl0 50 40) 50 (Lslices_Clone___byte_byte_.take 1) (frU 8 u (spc_i1 x ro).sl) (vsOf (spc_i1 x ro).objs)).sym (leafT 8 1) (.leaf [0] [0] []) = some (.leaf (.normal) (cl_0_d0 x ro)) := by kernel_rfl
theorem cl_0 (x ro : Bool) {Q : VEx → Desc → Prop} (l0 : TriL Try.prog 8 1 (Lslices_Clone___byte_byte_.drop 1) (cl_0_d0 x ro) Q) : TriL Try.prog 8 1 Lslices_Clone___byte_byte_ (spc_i1 x ro) Q :=
  TriL.tree plainN mixed calls0 (m := 1) (l := Lslices_Clone___byte_byte_) (d := (spc_i1 x ro)) (fun u => cl_0_s x ro u) (mL l0)
noncomputable abbrev cl_b_d0 (ro : Bool) : Desc := ⟨[(2, .slice none (0) (0))], [.cells [] 5 ro]⟩
theorem cl_b_r0 (ro : Bool) {Q : CRes → List VObj → Prop}  (hq : Q (.ret (.slice none (0) (0))) [.cells [] 5 ro]) : FinT Try.prog 30 8 1 Q .ret (cl_b_d0 ro) := FinT.ret (vs := [.slice none (0) (0)]) (l := []) (bs := [0]) (pl := []) (q := []) (fun u => by kernel_rfl) (by kernel_rfl) pls_nil hq
noncomputable abbrev spc_i2 (ro : Bool) : Desc := ⟨[(0, .slice (some ⟨0, 0, none⟩) 0 0), (4, .bool true)], [.cells [] 5 ro]⟩
theorem cl_b_s (ro : Bool) (u : Nat → Value) : (codesO Try.prog (callT Try.prog tbl0 50 40) 50 (spc_k0.take 1000) (frU 8 u (spc_i2 ro).sl) (vsOf (spc_i2 ro).objs)).sym (leafT 8 1) (.leaf [2] [0] []) = some (.leaf (.ret) (cl_b_d0 ro)) := by kernel_rfl
theorem cl_b (ro : Bool) {Q : VEx → Desc → Prop} (l0 : Q (.ret) (cl_b_d0 ro)) : TriL Try.prog 8 1 spc_k0 (spc_i2 ro) Q :=
  TriL.tree plainN mixed calls0 (m := 1000) (l := spc_k0) (d := (spc_i2 ro)) (fun u => cl_b_s ro u) (mL l0)
noncomputable abbrev cl_c_d0 (ro : Bool) : Desc := ⟨[(2, .slice (some ⟨1, 0, none⟩) (0) (0))], [.cells [] 5 ro, .cells ([]) 5 false]⟩
theorem cl_c_r0 (ro : Bool) {Q : CRes → List VObj → Prop}  (hq : Q (.ret (.slice (some ⟨1, 0, none⟩) (0) (0))) [.cells [] 5 ro, .cells ([]) 5 false]) : FinT Try.prog 30 8 1 Q .ret (cl_c_d0 ro) := FinT.ret (vs := [.slice (some ⟨1, 0, none⟩) (0) (0)]) (l := []) (bs := [0, 1]) (pl := []) (q := []) (fun u => by kernel_rfl) (by kernel_rfl) pls_nil hq
noncomputable abbrev spc_i3 (ro : Bool) : Desc := ⟨[(0, .slice (some ⟨0, 0, none⟩) 0 0), (4, .bool false)], [.cells [] 5 ro]⟩
theorem cl_c_s (ro : Bool) (u : Nat → Value) : (codesO Try.prog (callT Try.prog tbl0 50 40) 50 (spc_k0.take 1000) (frU 8 u (spc_i3 ro).sl) (vsOf (spc_i3 ro).objs)).sym (leafT 8 1) (.leaf [2] [0, 2] []) = some (.leaf (.ret) (cl_c_d0 ro)) := by kernel_rfl
theorem cl_c (ro : Bool) {Q : VEx → Desc → Prop} (l0 : Q (.ret) (cl_c_d0 ro)) : TriL Try.prog 8 1 spc_k0 (spc_i3 ro) Q :=
  TriL.tree plainN mixed calls0 (m := 1000) (l := spc_k0) (d := (spc_i3 ro)) (fun u => cl_c_s ro u) (mL l0)
end Go.Proofs.Ytnlkkgpcikkpoaa
