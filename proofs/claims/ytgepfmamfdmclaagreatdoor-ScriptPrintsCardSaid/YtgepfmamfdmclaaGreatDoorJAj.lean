/- Part of the proof: Xhe, Hea. -/
import Derived.Test.YtgepfmamfdmclaaGreatDoorJAe
import Derived.KernelRfl
import Derived.Test.YtgepfmamfdmclaaGreatDoorJAh
set_option linter.unusedVariables false
set_option linter.unusedSimpArgs false
set_option maxRecDepth 100000
namespace Go.Proofs.YtgepfmamfdmclaaGreatDoor
open Go Vm Go.RowKit
noncomputable def Lpenstocklaw27_heavy : List Code := flat2 (bodyC Tryz.prog 12)
open Tree renaming mkNeed → mN, mkFork → mF, mkLeaf → mL, mkQ → mQ, mkR → mR, mkE → mE
noncomputable abbrev xhe_k0 : List Code := (flat2 (inner (flat2 (inner (Lpenstocklaw27_heavy.drop 8)))))
noncomputable abbrev xhe_k1 : List Code := (flat2 (inner (flat2 (inner (Lpenstocklaw27_heavy.drop 6)))))
noncomputable abbrev xhe_k2 : List Code := (flat2 (inner (flat2 (inner (Lpenstocklaw27_heavy.drop 4)))))
def xhe_nd : Nat → Bool → Bool → Tree → Tree
 | 0, _, _, t => t
 | n + 1, d, b, t => .need d b (xhe_nd n d b t)
theorem xhe_mk {R : VEx → Desc → Prop} {c v : Bool} {t : Tree} (n : Nat) (h1 : c = v) (h2 : t.ok R) : (xhe_nd n c v t).ok R := by
 induction n with
 | zero => exact h2
 | succ n ih => exact ⟨h1, ih⟩
noncomputable abbrev he_a_d0 (J : JobV) : Desc := ⟨[(2, .bool true)], [pvRows J.ps, d5Rows J.ds, srcRows J.ss, t4Rows J.pan, t4Rows J.sto, filRows J.fl, .cells (intsC J.sch) 3 true]⟩
theorem he_a_r0 (J : JobV) {Q : CRes → List VObj → Prop} (hq : Q (.ret (.bool true)) (he_a_d0 J).objs) : FinT Tryz.prog 12 125 7 Q .ret (he_a_d0 J) := FinT.ret (vs := [.bool true]) (l := []) (bs := [0, 1, 2, 3, 4, 5, 6]) (pl := [6]) (q := [intsC (JobV.sch J)]) (fun u => by kernel_rfl) (by kernel_rfl) (pls_cons (pl_ints (JobV.sch J)) pls_nil) hq
noncomputable abbrev he_a_d1 (J : JobV) : Desc := ⟨[(2, .bool true)], [pvRows J.ps, d5Rows J.ds, srcRows J.ss, t4Rows J.pan, t4Rows J.sto, filRows J.fl, .cells (intsC J.sch) 3 true]⟩
theorem he_a_r1 (J : JobV) {Q : CRes → List VObj → Prop} (hq : Q (.ret (.bool true)) (he_a_d1 J).objs) : FinT Tryz.prog 12 125 7 Q .ret (he_a_d1 J) := FinT.ret (vs := [.bool true]) (l := []) (bs := [0, 1, 2, 3, 4, 5, 6]) (pl := [6]) (q := [intsC (JobV.sch J)]) (fun u => by kernel_rfl) (by kernel_rfl) (pls_cons (pl_ints (JobV.sch J)) pls_nil) hq
noncomputable abbrev he_a_d2 (J : JobV) : Desc := ⟨[(2, .bool true)], [pvRows J.ps, d5Rows J.ds, srcRows J.ss, t4Rows J.pan, t4Rows J.sto, filRows J.fl, .cells (intsC J.sch) 3 true]⟩
theorem he_a_r2 (J : JobV) {Q : CRes → List VObj → Prop} (hq : Q (.ret (.bool true)) (he_a_d2 J).objs) : FinT Tryz.prog 12 125 7 Q .ret (he_a_d2 J) := FinT.ret (vs := [.bool true]) (l := []) (bs := [0, 1, 2, 3, 4, 5, 6]) (pl := [6]) (q := [intsC (JobV.sch J)]) (fun u => by kernel_rfl) (by kernel_rfl) (pls_cons (pl_ints (JobV.sch J)) pls_nil) hq
noncomputable abbrev he_a_d3 (J : JobV) : Desc := ⟨[(2, .bool true)], [pvRows J.ps, d5Rows J.ds, srcRows J.ss, t4Rows J.pan, t4Rows J.sto, filRows J.fl, .cells (intsC J.sch) 3 true]⟩
theorem he_a_r3 (J : JobV) {Q : CRes → List VObj → Prop} (hq : Q (.ret (.bool true)) (he_a_d3 J).objs) : FinT Tryz.prog 12 125 7 Q .ret (he_a_d3 J) := FinT.ret (vs := [.bool true]) (l := []) (bs := [0, 1, 2, 3, 4, 5, 6]) (pl := [6]) (q := [intsC (JobV.sch J)]) (fun u => by kernel_rfl) (by kernel_rfl) (pls_cons (pl_ints (JobV.sch J)) pls_nil) hq
noncomputable abbrev he_a_d4 (J : JobV) : Desc := ⟨[(2, .bool true)], [pvRows J.ps, d5Rows J.ds, srcRows J.ss, t4Rows J.pan, t4Rows J.sto, filRows J.fl, .cells (intsC J.sch) 3 true]⟩
theorem he_a_r4 (J : JobV) {Q : CRes → List VObj → Prop} (hq : Q (.ret (.bool true)) (he_a_d4 J).objs) : FinT Tryz.prog 12 125 7 Q .ret (he_a_d4 J) := FinT.ret (vs := [.bool true]) (l := []) (bs := [0, 1, 2, 3, 4, 5, 6]) (pl := [6]) (q := [intsC (JobV.sch J)]) (fun u => by kernel_rfl) (by kernel_rfl) (pls_cons (pl_ints (JobV.sch J)) pls_nil) hq
noncomputable abbrev he_a_d5 (J : JobV) : Desc := ⟨[(2, .bool true)], [pvRows J.ps, d5Rows J.ds, srcRows J.ss, t4Rows J.pan, t4Rows J.sto, filRows J.fl, .cells (intsC J.sch) 3 true]⟩
theorem he_a_r5 (J : JobV) {Q : CRes → List VObj → Prop} (hq : Q (.ret (.bool true)) (he_a_d5 J).objs) : FinT Tryz.prog 12 125 7 Q .ret (he_a_d5 J) := FinT.ret (vs := [.bool true]) (l := []) (bs := [0, 1, 2, 3, 4, 5, 6]) (pl := [6]) (q := [intsC (JobV.sch J)]) (fun u => by kernel_rfl) (by kernel_rfl) (pls_cons (pl_ints (JobV.sch J)) pls_nil) hq
noncomputable abbrev he_a_d6 (J : JobV) : Desc := ⟨[(2, .bool true)], [pvRows J.ps, d5Rows J.ds, srcRows J.ss, t4Rows J.pan, t4Rows J.sto, filRows J.fl, .cells (intsC J.sch) 3 true]⟩
theorem he_a_r6 (J : JobV) {Q : CRes → List VObj → Prop} (hq : Q (.ret (.bool true)) (he_a_d6 J).objs) : FinT Tryz.prog 12 125 7 Q .ret (he_a_d6 J) := FinT.ret (vs := [.bool true]) (l := []) (bs := [0, 1, 2, 3, 4, 5, 6]) (pl := [6]) (q := [intsC (JobV.sch J)]) (fun u => by kernel_rfl) (by kernel_rfl) (pls_cons (pl_ints (JobV.sch J)) pls_nil) hq
noncomputable abbrev he_a_d7 (J : JobV) : Desc := ⟨[(1, .pointer (some ⟨7, 0, none⟩)), (3, .int .i64 (0))], [pvRows J.ps, d5Rows J.ds, srcRows J.ss, t4Rows J.pan, t4Rows J.sto, filRows J.fl, .cells (intsC J.sch) 3 true, .cells ([.slice (some ⟨0, 0, none⟩) (List.length (JobV.ps J)) (List.length (JobV.ps J)), .slice (some ⟨1, 0, none⟩) (List.length (JobV.ds J)) (List.length (JobV.ds J)), .slice (some ⟨2, 0, none⟩) (List.length (JobV.ss J)) (List.length (JobV.ss J)), .slice (some ⟨3, 0, none⟩) (List.length (JobV.pan J)) (List.length (JobV.pan J)), .slice (some ⟨4, 0, none⟩) (List.length (JobV.sto J)) (List.length (JobV.sto J)), .slice (some ⟨5, 0, none⟩) (List.length (JobV.fl J)) (List.length (JobV.fl J)), .slice (some ⟨6, 0, none⟩) (List.length (JobV.sch J)) (List.length (JobV.sch J))]) 34 false]⟩
noncomputable abbrev xhe_i0 (J : JobV) : Desc := ⟨[(0, .agg #[.slice (some ⟨0, 0, none⟩) J.ps.length J.ps.length, .slice (some ⟨1, 0, none⟩) J.ds.length J.ds.length, .slice (some ⟨2, 0, none⟩) J.ss.length J.ss.length, .slice (some ⟨3, 0, none⟩) J.pan.length J.pan.length, .slice (some ⟨4, 0, none⟩) J.sto.length J.sto.length, .slice (some ⟨5, 0, none⟩) J.fl.length J.fl.length, .slice (some ⟨6, 0, none⟩) J.sch.length J.sch.length])], [pvRows J.ps, d5Rows J.ds, srcRows J.ss, t4Rows J.pan, t4Rows J.sto, filRows J.fl, .cells (intsC J.sch) 3 true]⟩
theorem he_a (J : JobV) {Q : VEx → Desc → Prop} (pl0 : List.all (intsC (JobV.sch J)) isScal = true) (l1 : (decide ((↑(List.length (JobV.ps J)) : Int) > 60)) = true → Q (.ret) (he_a_d0 J)) (l2 : (decide ((↑(List.length (JobV.ps J)) : Int) > 60)) = false → (decide ((↑(List.length (JobV.ds J)) : Int) > 200)) = true → Q (.ret) (he_a_d1 J)) (l3 : (decide ((↑(List.length (JobV.ps J)) : Int) > 60)) = false → (decide ((↑(List.length (JobV.ds J)) : Int) > 200)) = false → (decide ((↑(List.length (JobV.ss J)) : Int) > 60)) = true → Q (.ret) (he_a_d2 J)) (l4 : (decide ((↑(List.length (JobV.ps J)) : Int) > 60)) = false → (decide ((↑(List.length (JobV.ds J)) : Int) > 200)) = false → (decide ((↑(List.length (JobV.ss J)) : Int) > 60)) = false → (decide ((↑(List.length (JobV.pan J)) : Int) > 200)) = true → Q (.ret) (he_a_d3 J)) (l5 : (decide ((↑(List.length (JobV.ps J)) : Int) > 60)) = false → (decide ((↑(List.length (JobV.ds J)) : Int) > 200)) = false → (decide ((↑(List.length (JobV.ss J)) : Int) > 60)) = false → (decide ((↑(List.length (JobV.pan J)) : Int) > 200)) = false → (decide ((↑(List.length (JobV.sto J)) : Int) > 200)) = true → Q (.ret) (he_a_d4 J)) (l6 : (decide ((↑(List.length (JobV.ps J)) : Int) > 60)) = false → (decide ((↑(List.length (JobV.ds J)) : Int) > 200)) = false → (decide ((↑(List.length (JobV.ss J)) : Int) > 60)) = false → (decide ((↑(List.length (JobV.pan J)) : Int) > 200)) = false → (decide ((↑(List.length (JobV.sto J)) : Int) > 200)) = false → (decide ((↑(List.length (JobV.fl J)) : Int) > 60)) = true → Q (.ret) (he_a_d5 J)) (l7 : (decide ((↑(List.length (JobV.ps J)) : Int) > 60)) = false → (decide ((↑(List.length (JobV.ds J)) : Int) > 200)) = false → (decide ((↑(List.length (JobV.ss J)) : Int) > 60)) = false → (decide ((↑(List.length (JobV.pan J)) : Int) > 200)) = false → (decide ((↑(List.length (JobV.sto J)) : Int) > 200)) = false → (decide ((↑(List.length (JobV.fl J)) : Int) > 60)) = false → (decide ((↑(List.length (JobV.sch J)) : Int) > 3000)) = true → Q (.ret) (he_a_d6 J)) (l8 : (decide ((↑(List.length (JobV.ps J)) : Int) > 60)) = false → (decide ((↑(List.length (JobV.ds J)) : Int) > 200)) = false → (decide ((↑(List.length (JobV.ss J)) : Int) > 60)) = false → (decide ((↑(List.length (JobV.pan J)) : Int) > 200)) = false → (decide ((↑(List.length (JobV.sto J)) : Int) > 200)) = false → (decide ((↑(List.length (JobV.fl J)) : Int) > 60)) = false → (decide ((↑(List.length (JobV.sch J)) : Int) > 3000)) = false → TriL Tryz.prog 125 7 (Lpenstocklaw27_heavy.drop 4) (he_a_d7 J) Q) : TriL Tryz.prog 125 7 Lpenstocklaw27_heavy (xhe_i0 J) Q :=
 TriL.tree plainN mixed calls0 (lf := 50) (m := 4) (s := (.fork 2 (.need 0 true (.need 0 true (.need 0 true (.need 0 true (.need 0 true (.leaf [2] [0, 1, 2, 3, 4, 5, 6] [6])))))) (.need 0 false (.need 0 false (.need 1 false (.need 1 false (.need 0 false (.fork 0 (.need 0 true (.need 0 true (.need 0 true (.need 0 true (.need 0 true (.leaf [2] [0, 1, 2, 3, 4, 5, 6] [6])))))) (.need 0 false (.need 0 false (.need 1 false (.need 1 false (.need 0 false (.fork 0 (.need 0 true (.need 0 true (.need 0 true (.need 0 true (.need 0 true (.leaf [2] [0, 1, 2, 3, 4, 5, 6] [6])))))) (.need 0 false (.need 0 false (.need 1 false (.need 1 false (.need 0 false (.fork 0 (.need 0 true (.need 0 true (.need 0 true (.need 0 true (.need 0 true (.leaf [2] [0, 1, 2, 3, 4, 5, 6] [6])))))) (.need 0 false (.need 0 false (.need 1 false (.need 1 false (.need 0 false (.fork 0 (.need 0 true (.need 0 true (.need 0 true (.need 0 true (.need 0 true (.leaf [2] [0, 1, 2, 3, 4, 5, 6] [6])))))) (.need 0 false (.need 0 false (.need 1 false (.need 1 false (.need 0 false (.fork 0 (.need 0 true (.need 0 true (.need 0 true (.need 0 true (.leaf [2] [0, 1, 2, 3, 4, 5, 6] [6]))))) (.need 0 false (.need 1 false (.need 1 false (.need 0 false (.fork 0 (.leaf [2] [0, 1, 2, 3, 4, 5, 6] [6]) (.leaf [1, 3] [0, 1, 2, 3, 4, 5, 6, 7] [6])))))))))))))))))))))))))))))))))))))) (fun u => by kernel_rfl) (mF (c := decide ((↑(List.length (JobV.ps J)) : Int) > 60)) (fun h0 => (xhe_mk 5 h0 (mN (pl_ints (JobV.sch J)) (mR (l1 h0))))) (fun h0 => (xhe_mk 5 h0 (mF (c := decide ((↑(List.length (JobV.ds J)) : Int) > 200)) (fun h1 => (xhe_mk 5 h1 (mN (pl_ints (JobV.sch J)) (mR (l2 h0 h1))))) (fun h1 => (xhe_mk 5 h1 (mF (c := decide ((↑(List.length (JobV.ss J)) : Int) > 60)) (fun h2 => (xhe_mk 5 h2 (mN (pl_ints (JobV.sch J)) (mR (l3 h0 h1 h2))))) (fun h2 => (xhe_mk 5 h2 (mF (c := decide ((↑(List.length (JobV.pan J)) : Int) > 200)) (fun h3 => (xhe_mk 5 h3 (mN (pl_ints (JobV.sch J)) (mR (l4 h0 h1 h2 h3))))) (fun h3 => (xhe_mk 5 h3 (mF (c := decide ((↑(List.length (JobV.sto J)) : Int) > 200)) (fun h4 => (xhe_mk 5 h4 (mN (pl_ints (JobV.sch J)) (mR (l5 h0 h1 h2 h3 h4))))) (fun h4 => (xhe_mk 5 h4 (mF (c := decide ((↑(List.length (JobV.fl J)) : Int) > 60)) (fun h5 => (xhe_mk 4 h5 (mN (pl_ints (JobV.sch J)) (mR (l6 h0 h1 h2 h3 h4 h5))))) (fun h5 => (xhe_mk 4 h5 (mF (c := decide ((↑(List.length (JobV.sch J)) : Int) > 3000)) (fun h6 => (mN (pl_ints (JobV.sch J)) (mR (l7 h0 h1 h2 h3 h4 h5 h6)))) (fun h6 => (mN (pl_ints (JobV.sch J)) (mQ (l8 h0 h1 h2 h3 h4 h5 h6)))))))))))))))))))))))
noncomputable abbrev he_b1_d0 (J : JobV) (i : Nat) : Desc := ⟨[(1, .pointer (some ⟨7, 0, none⟩)), (3, .int .i64 ((↑i : Int)))], [pvRows J.ps, d5Rows J.ds, srcRows J.ss, t4Rows J.pan, t4Rows J.sto, filRows J.fl, .cells (intsC J.sch) 3 true, .cells ([.slice (some ⟨0, 0, none⟩) (List.length (JobV.ps J)) (List.length (JobV.ps J)), .slice (some ⟨1, 0, none⟩) (List.length (JobV.ds J)) (List.length (JobV.ds J)), .slice (some ⟨2, 0, none⟩) (List.length (JobV.ss J)) (List.length (JobV.ss J)), .slice (some ⟨3, 0, none⟩) (List.length (JobV.pan J)) (List.length (JobV.pan J)), .slice (some ⟨4, 0, none⟩) (List.length (JobV.sto J)) (List.length (JobV.sto J)), .slice (some ⟨5, 0, none⟩) (List.length (JobV.fl J)) (List.length (JobV.fl J)), .slice (some ⟨6, 0, none⟩) (List.length (JobV.sch J)) (List.length (JobV.sch J))]) 34 false]⟩
noncomputable abbrev he_b1_d1 (J : JobV) (i : Nat) : Desc := ⟨[(1, .pointer (some ⟨7, 0, none⟩))], [pvRows J.ps, d5Rows J.ds, srcRows J.ss, t4Rows J.pan, t4Rows J.sto, filRows J.fl, .cells (intsC J.sch) 3 true, .cells ([.slice (some ⟨0, 0, none⟩) (List.length (JobV.ps J)) (List.length (JobV.ps J)), .slice (some ⟨1, 0, none⟩) (List.length (JobV.ds J)) (List.length (JobV.ds J)), .slice (some ⟨2, 0, none⟩) (List.length (JobV.ss J)) (List.length (JobV.ss J)), .slice (some ⟨3, 0, none⟩) (List.length (JobV.pan J)) (List.length (JobV.pan J)), .slice (some ⟨4, 0, none⟩) (List.length (JobV.sto J)) (List.length (JobV.sto J)), .slice (some ⟨5, 0, none⟩) (List.length (JobV.fl J)) (List.length (JobV.fl J)), .slice (some ⟨6, 0, none⟩) (List.length (JobV.sch J)) (List.length (JobV.sch J))]) 34 false]⟩
noncomputable abbrev xhe_i1 (J : JobV) (i : Nat) : Desc := ⟨[(1, .pointer (some ⟨7, 0, none⟩)), (3, .int .i64 i)], [pvRows J.ps, d5Rows J.ds, srcRows J.ss, t4Rows J.pan, t4Rows J.sto, filRows J.fl, .cells (intsC J.sch) 3 true, .cells [.slice (some ⟨0, 0, none⟩) J.ps.length J.ps.length, .slice (some ⟨1, 0, none⟩) J.ds.length J.ds.length, .slice (some ⟨2, 0, none⟩) J.ss.length J.ss.length, .slice (some ⟨3, 0, none⟩) J.pan.length J.pan.length, .slice (some ⟨4, 0, none⟩) J.sto.length J.sto.length, .slice (some ⟨5, 0, none⟩) J.fl.length J.fl.length, .slice (some ⟨6, 0, none⟩) J.sch.length J.sch.length] 34 false]⟩
theorem he_b1 (J : JobV) (i : Nat) {Q : VEx → Desc → Prop} (pl0 : List.all (intsC (JobV.sch J)) isScal = true) (l1 : (decide ((↑i : Int) < (↑(List.length (JobV.ps J)) : Int))) = true → TriL Tryz.prog 125 7 (xhe_k2.drop 2) (he_b1_d0 J i) Q) (l2 : (decide ((↑i : Int) < (↑(List.length (JobV.ps J)) : Int))) = false → Q (.exit 0) (he_b1_d1 J i)) : TriL Tryz.prog 125 7 xhe_k2 (xhe_i1 J i) Q :=
 TriL.tree plainN mixed calls0 (lf := 50) (m := 2) (s := (.fork 2 (.leaf [1, 3] [0, 1, 2, 3, 4, 5, 6, 7] [6]) (.leaf [1] [0, 1, 2, 3, 4, 5, 6, 7] [6]))) (fun u => by kernel_rfl) (mF (c := decide ((↑i : Int) < (↑(List.length (JobV.ps J)) : Int))) (fun h0 => (mN (pl_ints (JobV.sch J)) (mQ (l1 h0)))) (fun h0 => (mN (pl_ints (JobV.sch J)) (mE 0 (l2 h0)))))
noncomputable abbrev he_b2_d0 (J : JobV) (i : Nat) : Desc := ⟨[(2, .bool true)], [pvRows J.ps, d5Rows J.ds, srcRows J.ss, t4Rows J.pan, t4Rows J.sto, filRows J.fl, .cells (intsC J.sch) 3 true]⟩
theorem he_b2_r0 (J : JobV) (i : Nat) {Q : CRes → List VObj → Prop} (hq : Q (.ret (.bool true)) (he_b2_d0 J i).objs) : FinT Tryz.prog 12 125 7 Q .ret (he_b2_d0 J i) := FinT.ret (vs := [.bool true]) (l := []) (bs := [0, 1, 2, 3, 4, 5, 6]) (pl := [6]) (q := [intsC (JobV.sch J)]) (fun u => by kernel_rfl) (by kernel_rfl) (pls_cons (pl_ints (JobV.sch J)) pls_nil) hq
noncomputable abbrev he_b2_d1 (J : JobV) (i : Nat) : Desc := ⟨[(2, .bool true)], [pvRows J.ps, d5Rows J.ds, srcRows J.ss, t4Rows J.pan, t4Rows J.sto, filRows J.fl, .cells (intsC J.sch) 3 true]⟩
theorem he_b2_r1 (J : JobV) (i : Nat) {Q : CRes → List VObj → Prop} (hq : Q (.ret (.bool true)) (he_b2_d1 J i).objs) : FinT Tryz.prog 12 125 7 Q .ret (he_b2_d1 J i) := FinT.ret (vs := [.bool true]) (l := []) (bs := [0, 1, 2, 3, 4, 5, 6]) (pl := [6]) (q := [intsC (JobV.sch J)]) (fun u => by kernel_rfl) (by kernel_rfl) (pls_cons (pl_ints (JobV.sch J)) pls_nil) hq
noncomputable abbrev he_b2_d2 (J : JobV) (i : Nat) : Desc := ⟨[(1, .pointer (some ⟨7, 0, none⟩)), (3, .int .i64 (IntKind.wrap .i64 ((↑i : Int) + 1)))], [pvRows J.ps, d5Rows J.ds, srcRows J.ss, t4Rows J.pan, t4Rows J.sto, filRows J.fl, .cells (intsC J.sch) 3 true, .cells ([.slice (some ⟨0, 0, none⟩) (List.length (JobV.ps J)) (List.length (JobV.ps J)), .slice (some ⟨1, 0, none⟩) (List.length (JobV.ds J)) (List.length (JobV.ds J)), .slice (some ⟨2, 0, none⟩) (List.length (JobV.ss J)) (List.length (JobV.ss J)), .slice (some ⟨3, 0, none⟩) (List.length (JobV.pan J)) (List.length (JobV.pan J)), .slice (some ⟨4, 0, none⟩) (List.length (JobV.sto J)) (List.length (JobV.sto J)), .slice (some ⟨5, 0, none⟩) (List.length (JobV.fl J)) (List.length (JobV.fl J)), .slice (some ⟨6, 0, none⟩) (List.length (JobV.sch J)) (List.length (JobV.sch J))]) 34 false]⟩
theorem he_b2 (J : JobV) (i : Nat) (h0 : i < J.ps.length) (h1 : J.ps.length ≤ 100000) {Q : VEx → Desc → Prop} (pl0 : List.all (intsC (JobV.sch J)) isScal = true) (l1 : (decide ((↑(ByteArray.size (PV.a (Option.getD (JobV.ps J)[Int.toNat (↑i : Int)]? pvZ))) : Int) > 300)) = true → Q (.ret) (he_b2_d0 J i)) (l2 : (decide ((↑(ByteArray.size (PV.a (Option.getD (JobV.ps J)[Int.toNat (↑i : Int)]? pvZ))) : Int) > 300)) = false → (decide ((↑(ByteArray.size (PV.b (Option.getD (JobV.ps J)[Int.toNat (↑i : Int)]? pvZ))) : Int) > 300)) = true → Q (.ret) (he_b2_d1 J i)) (l3 : (decide ((↑(ByteArray.size (PV.a (Option.getD (JobV.ps J)[Int.toNat (↑i : Int)]? pvZ))) : Int) > 300)) = false → (decide ((↑(ByteArray.size (PV.b (Option.getD (JobV.ps J)[Int.toNat (↑i : Int)]? pvZ))) : Int) > 300)) = false → Q .normal (he_b2_d2 J i)) : TriL Tryz.prog 125 7 (xhe_k2.drop 2) (xhe_i1 J i) Q :=
 TriL.tree plainN mixed calls0 (lf := 50) (m := 1000) (s := (.need 2 true (.need 0 true (.fork 2 (.need 0 true (.need 0 true (.need 0 true (.need 0 true (.need 0 true (.need 0 true (.need 0 true (.need 0 true (.need 0 true (.leaf [2] [0, 1, 2, 3, 4, 5, 6] [6])))))))))) (.need 0 false (.need 0 false (.need 1 false (.need 0 false (.need 1 true (.need 0 true (.need 0 false (.need 0 false (.need 1 false (.need 1 false (.need 0 false (.fork 0 (.leaf [2] [0, 1, 2, 3, 4, 5, 6] [6]) (.leaf [1, 3] [0, 1, 2, 3, 4, 5, 6, 7] [6]))))))))))))))))) (fun u => by kernel_rfl) (xhe_mk 2 (show (Nat.blt (Int.toNat (↑i : Int)) (List.length (JobV.ps J))) = true by simp at h0 h1 ⊢ <;> omega) (mF (c := decide ((↑(ByteArray.size (PV.a (Option.getD (JobV.ps J)[Int.toNat (↑i : Int)]? pvZ))) : Int) > 300)) (fun h0 => (xhe_mk 9 h0 (mN (pl_ints (JobV.sch J)) (mR (l1 h0))))) (fun h0 => (xhe_mk 4 h0 (xhe_mk 2 (show (Nat.blt (Int.toNat (↑i : Int)) (List.length (JobV.ps J))) = true by simp at h0 h1 h0 ⊢ <;> omega) (xhe_mk 5 h0 (mF (c := decide ((↑(ByteArray.size (PV.b (Option.getD (JobV.ps J)[Int.toNat (↑i : Int)]? pvZ))) : Int) > 300)) (fun h1 => (mN (pl_ints (JobV.sch J)) (mR (l2 h0 h1)))) (fun h1 => (mN (pl_ints (JobV.sch J)) (mQ (TriL.done (by kernel_rfl) (l3 h0 h1))))))))))))
noncomputable abbrev he_b3_d0 (J : JobV) : Desc := ⟨[(1, .pointer (some ⟨7, 0, none⟩)), (4, .int .i64 (0))], [pvRows J.ps, d5Rows J.ds, srcRows J.ss, t4Rows J.pan, t4Rows J.sto, filRows J.fl, .cells (intsC J.sch) 3 true, .cells ([.slice (some ⟨0, 0, none⟩) (List.length (JobV.ps J)) (List.length (JobV.ps J)), .slice (some ⟨1, 0, none⟩) (List.length (JobV.ds J)) (List.length (JobV.ds J)), .slice (some ⟨2, 0, none⟩) (List.length (JobV.ss J)) (List.length (JobV.ss J)), .slice (some ⟨3, 0, none⟩) (List.length (JobV.pan J)) (List.length (JobV.pan J)), .slice (some ⟨4, 0, none⟩) (List.length (JobV.sto J)) (List.length (JobV.sto J)), .slice (some ⟨5, 0, none⟩) (List.length (JobV.fl J)) (List.length (JobV.fl J)), .slice (some ⟨6, 0, none⟩) (List.length (JobV.sch J)) (List.length (JobV.sch J))]) 34 false]⟩
noncomputable abbrev xhe_i2 (J : JobV) : Desc := ⟨[(1, .pointer (some ⟨7, 0, none⟩))], [pvRows J.ps, d5Rows J.ds, srcRows J.ss, t4Rows J.pan, t4Rows J.sto, filRows J.fl, .cells (intsC J.sch) 3 true, .cells [.slice (some ⟨0, 0, none⟩) J.ps.length J.ps.length, .slice (some ⟨1, 0, none⟩) J.ds.length J.ds.length, .slice (some ⟨2, 0, none⟩) J.ss.length J.ss.length, .slice (some ⟨3, 0, none⟩) J.pan.length J.pan.length, .slice (some ⟨4, 0, none⟩) J.sto.length J.sto.length, .slice (some ⟨5, 0, none⟩) J.fl.length J.fl.length, .slice (some ⟨6, 0, none⟩) J.sch.length J.sch.length] 34 false]⟩
theorem he_b3 (J : JobV) {Q : VEx → Desc → Prop} (pl0 : List.all (intsC (JobV.sch J)) isScal = true) (l1 : TriL Tryz.prog 125 7 ((Lpenstocklaw27_heavy.drop 5).drop 1) (he_b3_d0 J) Q) : TriL Tryz.prog 125 7 (Lpenstocklaw27_heavy.drop 5) (xhe_i2 J) Q :=
 TriL.tree plainN mixed calls0 (lf := 50) (m := 1) (s := (.leaf [1, 4] [0, 1, 2, 3, 4, 5, 6, 7] [6])) (fun u => by kernel_rfl) (mN (pl_ints (JobV.sch J)) (mQ l1))
noncomputable abbrev he_c1_d0 (J : JobV) (i : Nat) : Desc := ⟨[(1, .pointer (some ⟨7, 0, none⟩)), (4, .int .i64 ((↑i : Int)))], [pvRows J.ps, d5Rows J.ds, srcRows J.ss, t4Rows J.pan, t4Rows J.sto, filRows J.fl, .cells (intsC J.sch) 3 true, .cells ([.slice (some ⟨0, 0, none⟩) (List.length (JobV.ps J)) (List.length (JobV.ps J)), .slice (some ⟨1, 0, none⟩) (List.length (JobV.ds J)) (List.length (JobV.ds J)), .slice (some ⟨2, 0, none⟩) (List.length (JobV.ss J)) (List.length (JobV.ss J)), .slice (some ⟨3, 0, none⟩) (List.length (JobV.pan J)) (List.length (JobV.pan J)), .slice (some ⟨4, 0, none⟩) (List.length (JobV.sto J)) (List.length (JobV.sto J)), .slice (some ⟨5, 0, none⟩) (List.length (JobV.fl J)) (List.length (JobV.fl J)), .slice (some ⟨6, 0, none⟩) (List.length (JobV.sch J)) (List.length (JobV.sch J))]) 34 false]⟩
noncomputable abbrev he_c1_d1 (J : JobV) (i : Nat) : Desc := ⟨[(1, .pointer (some ⟨7, 0, none⟩))], [pvRows J.ps, d5Rows J.ds, srcRows J.ss, t4Rows J.pan, t4Rows J.sto, filRows J.fl, .cells (intsC J.sch) 3 true, .cells ([.slice (some ⟨0, 0, none⟩) (List.length (JobV.ps J)) (List.length (JobV.ps J)), .slice (some ⟨1, 0, none⟩) (List.length (JobV.ds J)) (List.length (JobV.ds J)), .slice (some ⟨2, 0, none⟩) (List.length (JobV.ss J)) (List.length (JobV.ss J)), .slice (some ⟨3, 0, none⟩) (List.length (JobV.pan J)) (List.length (JobV.pan J)), .slice (some ⟨4, 0, none⟩) (List.length (JobV.sto J)) (List.length (JobV.sto J)), .slice (some ⟨5, 0, none⟩) (List.length (JobV.fl J)) (List.length (JobV.fl J)), .slice (some ⟨6, 0, none⟩) (List.length (JobV.sch J)) (List.length (JobV.sch J))]) 34 false]⟩
noncomputable abbrev xhe_i3 (J : JobV) (i : Nat) : Desc := ⟨[(1, .pointer (some ⟨7, 0, none⟩)), (4, .int .i64 i)], [pvRows J.ps, d5Rows J.ds, srcRows J.ss, t4Rows J.pan, t4Rows J.sto, filRows J.fl, .cells (intsC J.sch) 3 true, .cells [.slice (some ⟨0, 0, none⟩) J.ps.length J.ps.length, .slice (some ⟨1, 0, none⟩) J.ds.length J.ds.length, .slice (some ⟨2, 0, none⟩) J.ss.length J.ss.length, .slice (some ⟨3, 0, none⟩) J.pan.length J.pan.length, .slice (some ⟨4, 0, none⟩) J.sto.length J.sto.length, .slice (some ⟨5, 0, none⟩) J.fl.length J.fl.length, .slice (some ⟨6, 0, none⟩) J.sch.length J.sch.length] 34 false]⟩
theorem he_c1 (J : JobV) (i : Nat) {Q : VEx → Desc → Prop} (pl0 : List.all (intsC (JobV.sch J)) isScal = true) (l1 : (decide ((↑i : Int) < (↑(List.length (JobV.ss J)) : Int))) = true → TriL Tryz.prog 125 7 (xhe_k1.drop 2) (he_c1_d0 J i) Q) (l2 : (decide ((↑i : Int) < (↑(List.length (JobV.ss J)) : Int))) = false → Q (.exit 2) (he_c1_d1 J i)) : TriL Tryz.prog 125 7 xhe_k1 (xhe_i3 J i) Q :=
 TriL.tree plainN mixed calls0 (lf := 50) (m := 2) (s := (.fork 2 (.leaf [1, 4] [0, 1, 2, 3, 4, 5, 6, 7] [6]) (.leaf [1] [0, 1, 2, 3, 4, 5, 6, 7] [6]))) (fun u => by kernel_rfl) (mF (c := decide ((↑i : Int) < (↑(List.length (JobV.ss J)) : Int))) (fun h0 => (mN (pl_ints (JobV.sch J)) (mQ (l1 h0)))) (fun h0 => (mN (pl_ints (JobV.sch J)) (mE 2 (l2 h0)))))
noncomputable abbrev he_c2_d0 (J : JobV) (i : Nat) : Desc := ⟨[(2, .bool true)], [pvRows J.ps, d5Rows J.ds, srcRows J.ss, t4Rows J.pan, t4Rows J.sto, filRows J.fl, .cells (intsC J.sch) 3 true]⟩
theorem he_c2_r0 (J : JobV) (i : Nat) {Q : CRes → List VObj → Prop} (hq : Q (.ret (.bool true)) (he_c2_d0 J i).objs) : FinT Tryz.prog 12 125 7 Q .ret (he_c2_d0 J i) := FinT.ret (vs := [.bool true]) (l := []) (bs := [0, 1, 2, 3, 4, 5, 6]) (pl := [6]) (q := [intsC (JobV.sch J)]) (fun u => by kernel_rfl) (by kernel_rfl) (pls_cons (pl_ints (JobV.sch J)) pls_nil) hq
noncomputable abbrev he_c2_d1 (J : JobV) (i : Nat) : Desc := ⟨[(2, .bool true)], [pvRows J.ps, d5Rows J.ds, srcRows J.ss, t4Rows J.pan, t4Rows J.sto, filRows J.fl, .cells (intsC J.sch) 3 true]⟩
theorem he_c2_r1 (J : JobV) (i : Nat) {Q : CRes → List VObj → Prop} (hq : Q (.ret (.bool true)) (he_c2_d1 J i).objs) : FinT Tryz.prog 12 125 7 Q .ret (he_c2_d1 J i) := FinT.ret (vs := [.bool true]) (l := []) (bs := [0, 1, 2, 3, 4, 5, 6]) (pl := [6]) (q := [intsC (JobV.sch J)]) (fun u => by kernel_rfl) (by kernel_rfl) (pls_cons (pl_ints (JobV.sch J)) pls_nil) hq
noncomputable abbrev he_c2_d2 (J : JobV) (i : Nat) : Desc := ⟨[(1, .pointer (some ⟨7, 0, none⟩)), (4, .int .i64 (IntKind.wrap .i64 ((↑i : Int) + 1)))], [pvRows J.ps, d5Rows J.ds, srcRows J.ss, t4Rows J.pan, t4Rows J.sto, filRows J.fl, .cells (intsC J.sch) 3 true, .cells ([.slice (some ⟨0, 0, none⟩) (List.length (JobV.ps J)) (List.length (JobV.ps J)), .slice (some ⟨1, 0, none⟩) (List.length (JobV.ds J)) (List.length (JobV.ds J)), .slice (some ⟨2, 0, none⟩) (List.length (JobV.ss J)) (List.length (JobV.ss J)), .slice (some ⟨3, 0, none⟩) (List.length (JobV.pan J)) (List.length (JobV.pan J)), .slice (some ⟨4, 0, none⟩) (List.length (JobV.sto J)) (List.length (JobV.sto J)), .slice (some ⟨5, 0, none⟩) (List.length (JobV.fl J)) (List.length (JobV.fl J)), .slice (some ⟨6, 0, none⟩) (List.length (JobV.sch J)) (List.length (JobV.sch J))]) 34 false]⟩
theorem he_c2 (J : JobV) (i : Nat) (h0 : i < J.ss.length) (h1 : J.ss.length ≤ 100000) {Q : VEx → Desc → Prop} (pl0 : List.all (intsC (JobV.sch J)) isScal = true) (l1 : (decide ((↑(ByteArray.size (SrcV.b (Option.getD (JobV.ss J)[Int.toNat (↑i : Int)]? srcZ))) : Int) > 5000)) = true → Q (.ret) (he_c2_d0 J i)) (l2 : (decide ((↑(ByteArray.size (SrcV.b (Option.getD (JobV.ss J)[Int.toNat (↑i : Int)]? srcZ))) : Int) > 5000)) = false → (decide ((↑(List.length (SrcV.cuts (Option.getD (JobV.ss J)[Int.toNat (↑i : Int)]? srcZ))) : Int) > 300)) = true → Q (.ret) (he_c2_d1 J i)) (l3 : (decide ((↑(ByteArray.size (SrcV.b (Option.getD (JobV.ss J)[Int.toNat (↑i : Int)]? srcZ))) : Int) > 5000)) = false → (decide ((↑(List.length (SrcV.cuts (Option.getD (JobV.ss J)[Int.toNat (↑i : Int)]? srcZ))) : Int) > 300)) = false → Q .normal (he_c2_d2 J i)) : TriL Tryz.prog 125 7 (xhe_k1.drop 2) (xhe_i3 J i) Q :=
 TriL.tree plainN mixed calls0 (lf := 50) (m := 1000) (s := (.need 2 true (.need 0 true (.fork 2 (.need 0 true (.need 0 true (.need 0 true (.need 0 true (.need 0 true (.need 0 true (.need 0 true (.need 0 true (.need 0 true (.leaf [2] [0, 1, 2, 3, 4, 5, 6] [6])))))))))) (.need 0 false (.need 0 false (.need 1 false (.need 0 false (.need 1 true (.need 0 true (.need 0 false (.need 0 false (.need 1 false (.need 1 false (.need 0 false (.fork 0 (.leaf [2] [0, 1, 2, 3, 4, 5, 6] [6]) (.leaf [1, 4] [0, 1, 2, 3, 4, 5, 6, 7] [6]))))))))))))))))) (fun u => by kernel_rfl) (xhe_mk 2 (show (Nat.blt (Int.toNat (↑i : Int)) (List.length (JobV.ss J))) = true by simp at h0 h1 ⊢ <;> omega) (mF (c := decide ((↑(ByteArray.size (SrcV.b (Option.getD (JobV.ss J)[Int.toNat (↑i : Int)]? srcZ))) : Int) > 5000)) (fun h0 => (xhe_mk 9 h0 (mN (pl_ints (JobV.sch J)) (mR (l1 h0))))) (fun h0 => (xhe_mk 4 h0 (xhe_mk 2 (show (Nat.blt (Int.toNat (↑i : Int)) (List.length (JobV.ss J))) = true by simp at h0 h1 h0 ⊢ <;> omega) (xhe_mk 5 h0 (mF (c := decide ((↑(List.length (SrcV.cuts (Option.getD (JobV.ss J)[Int.toNat (↑i : Int)]? srcZ))) : Int) > 300)) (fun h1 => (mN (pl_ints (JobV.sch J)) (mR (l2 h0 h1)))) (fun h1 => (mN (pl_ints (JobV.sch J)) (mQ (TriL.done (by kernel_rfl) (l3 h0 h1))))))))))))
noncomputable abbrev he_c3_d0 (J : JobV) : Desc := ⟨[(1, .pointer (some ⟨7, 0, none⟩)), (5, .int .i64 (0))], [pvRows J.ps, d5Rows J.ds, srcRows J.ss, t4Rows J.pan, t4Rows J.sto, filRows J.fl, .cells (intsC J.sch) 3 true, .cells ([.slice (some ⟨0, 0, none⟩) (List.length (JobV.ps J)) (List.length (JobV.ps J)), .slice (some ⟨1, 0, none⟩) (List.length (JobV.ds J)) (List.length (JobV.ds J)), .slice (some ⟨2, 0, none⟩) (List.length (JobV.ss J)) (List.length (JobV.ss J)), .slice (some ⟨3, 0, none⟩) (List.length (JobV.pan J)) (List.length (JobV.pan J)), .slice (some ⟨4, 0, none⟩) (List.length (JobV.sto J)) (List.length (JobV.sto J)), .slice (some ⟨5, 0, none⟩) (List.length (JobV.fl J)) (List.length (JobV.fl J)), .slice (some ⟨6, 0, none⟩) (List.length (JobV.sch J)) (List.length (JobV.sch J))]) 34 false]⟩
theorem he_c3 (J : JobV) {Q : VEx → Desc → Prop} (pl0 : List.all (intsC (JobV.sch J)) isScal = true) (l1 : TriL Tryz.prog 125 7 ((Lpenstocklaw27_heavy.drop 7).drop 1) (he_c3_d0 J) Q) : TriL Tryz.prog 125 7 (Lpenstocklaw27_heavy.drop 7) (xhe_i2 J) Q :=
 TriL.tree plainN mixed calls0 (lf := 50) (m := 1) (s := (.leaf [1, 5] [0, 1, 2, 3, 4, 5, 6, 7] [6])) (fun u => by kernel_rfl) (mN (pl_ints (JobV.sch J)) (mQ l1))
noncomputable abbrev he_d1_d0 (J : JobV) (i : Nat) : Desc := ⟨[(1, .pointer (some ⟨7, 0, none⟩)), (5, .int .i64 ((↑i : Int)))], [pvRows J.ps, d5Rows J.ds, srcRows J.ss, t4Rows J.pan, t4Rows J.sto, filRows J.fl, .cells (intsC J.sch) 3 true, .cells ([.slice (some ⟨0, 0, none⟩) (List.length (JobV.ps J)) (List.length (JobV.ps J)), .slice (some ⟨1, 0, none⟩) (List.length (JobV.ds J)) (List.length (JobV.ds J)), .slice (some ⟨2, 0, none⟩) (List.length (JobV.ss J)) (List.length (JobV.ss J)), .slice (some ⟨3, 0, none⟩) (List.length (JobV.pan J)) (List.length (JobV.pan J)), .slice (some ⟨4, 0, none⟩) (List.length (JobV.sto J)) (List.length (JobV.sto J)), .slice (some ⟨5, 0, none⟩) (List.length (JobV.fl J)) (List.length (JobV.fl J)), .slice (some ⟨6, 0, none⟩) (List.length (JobV.sch J)) (List.length (JobV.sch J))]) 34 false]⟩
noncomputable abbrev he_d1_d1 (J : JobV) (i : Nat) : Desc := ⟨[], [pvRows J.ps, d5Rows J.ds, srcRows J.ss, t4Rows J.pan, t4Rows J.sto, filRows J.fl, .cells (intsC J.sch) 3 true]⟩
noncomputable abbrev xhe_i4 (J : JobV) (i : Nat) : Desc := ⟨[(1, .pointer (some ⟨7, 0, none⟩)), (5, .int .i64 i)], [pvRows J.ps, d5Rows J.ds, srcRows J.ss, t4Rows J.pan, t4Rows J.sto, filRows J.fl, .cells (intsC J.sch) 3 true, .cells [.slice (some ⟨0, 0, none⟩) J.ps.length J.ps.length, .slice (some ⟨1, 0, none⟩) J.ds.length J.ds.length, .slice (some ⟨2, 0, none⟩) J.ss.length J.ss.length, .slice (some ⟨3, 0, none⟩) J.pan.length J.pan.length, .slice (some ⟨4, 0, none⟩) J.sto.length J.sto.length, .slice (some ⟨5, 0, none⟩) J.fl.length J.fl.length, .slice (some ⟨6, 0, none⟩) J.sch.length J.sch.length] 34 false]⟩
theorem he_d1 (J : JobV) (i : Nat) {Q : VEx → Desc → Prop} (pl0 : List.all (intsC (JobV.sch J)) isScal = true) (l1 : (decide ((↑i : Int) < (↑(List.length (JobV.fl J)) : Int))) = true → TriL Tryz.prog 125 7 (xhe_k0.drop 2) (he_d1_d0 J i) Q) (l2 : (decide ((↑i : Int) < (↑(List.length (JobV.fl J)) : Int))) = false → Q (.exit 4) (he_d1_d1 J i)) : TriL Tryz.prog 125 7 xhe_k0 (xhe_i4 J i) Q :=
 TriL.tree plainN mixed calls0 (lf := 50) (m := 2) (s := (.fork 2 (.leaf [1, 5] [0, 1, 2, 3, 4, 5, 6, 7] [6]) (.leaf [] [0, 1, 2, 3, 4, 5, 6] [6]))) (fun u => by kernel_rfl) (mF (c := decide ((↑i : Int) < (↑(List.length (JobV.fl J)) : Int))) (fun h0 => (mN (pl_ints (JobV.sch J)) (mQ (l1 h0)))) (fun h0 => (mN (pl_ints (JobV.sch J)) (mE 4 (l2 h0)))))
noncomputable abbrev he_d2_d0 (J : JobV) (i : Nat) : Desc := ⟨[(2, .bool true)], [pvRows J.ps, d5Rows J.ds, srcRows J.ss, t4Rows J.pan, t4Rows J.sto, filRows J.fl, .cells (intsC J.sch) 3 true]⟩
theorem he_d2_r0 (J : JobV) (i : Nat) {Q : CRes → List VObj → Prop} (hq : Q (.ret (.bool true)) (he_d2_d0 J i).objs) : FinT Tryz.prog 12 125 7 Q .ret (he_d2_d0 J i) := FinT.ret (vs := [.bool true]) (l := []) (bs := [0, 1, 2, 3, 4, 5, 6]) (pl := [6]) (q := [intsC (JobV.sch J)]) (fun u => by kernel_rfl) (by kernel_rfl) (pls_cons (pl_ints (JobV.sch J)) pls_nil) hq
noncomputable abbrev he_d2_d1 (J : JobV) (i : Nat) : Desc := ⟨[(1, .pointer (some ⟨7, 0, none⟩)), (5, .int .i64 (IntKind.wrap .i64 ((↑i : Int) + 1)))], [pvRows J.ps, d5Rows J.ds, srcRows J.ss, t4Rows J.pan, t4Rows J.sto, filRows J.fl, .cells (intsC J.sch) 3 true, .cells ([.slice (some ⟨0, 0, none⟩) (List.length (JobV.ps J)) (List.length (JobV.ps J)), .slice (some ⟨1, 0, none⟩) (List.length (JobV.ds J)) (List.length (JobV.ds J)), .slice (some ⟨2, 0, none⟩) (List.length (JobV.ss J)) (List.length (JobV.ss J)), .slice (some ⟨3, 0, none⟩) (List.length (JobV.pan J)) (List.length (JobV.pan J)), .slice (some ⟨4, 0, none⟩) (List.length (JobV.sto J)) (List.length (JobV.sto J)), .slice (some ⟨5, 0, none⟩) (List.length (JobV.fl J)) (List.length (JobV.fl J)), .slice (some ⟨6, 0, none⟩) (List.length (JobV.sch J)) (List.length (JobV.sch J))]) 34 false]⟩
theorem he_d2 (J : JobV) (i : Nat) (h0 : i < J.fl.length) (h1 : J.fl.length ≤ 100000) {Q : VEx → Desc → Prop} (pl0 : List.all (intsC (JobV.sch J)) isScal = true) (l1 : (decide ((↑(List.length (FilV.fs (Option.getD (JobV.fl J)[Int.toNat (↑i : Int)]? filZ))) : Int) > 300)) = true → Q (.ret) (he_d2_d0 J i)) (l2 : (decide ((↑(List.length (FilV.fs (Option.getD (JobV.fl J)[Int.toNat (↑i : Int)]? filZ))) : Int) > 300)) = false → Q .normal (he_d2_d1 J i)) : TriL Tryz.prog 125 7 (xhe_k0.drop 2) (xhe_i4 J i) Q :=
 TriL.tree plainN mixed calls0 (lf := 50) (m := 1000) (s := (.need 2 true (.need 0 true (.fork 2 (.leaf [2] [0, 1, 2, 3, 4, 5, 6] [6]) (.leaf [1, 5] [0, 1, 2, 3, 4, 5, 6, 7] [6]))))) (fun u => by kernel_rfl) (xhe_mk 2 (show (Nat.blt (Int.toNat (↑i : Int)) (List.length (JobV.fl J))) = true by simp at h0 h1 ⊢ <;> omega) (mF (c := decide ((↑(List.length (FilV.fs (Option.getD (JobV.fl J)[Int.toNat (↑i : Int)]? filZ))) : Int) > 300)) (fun h0 => (mN (pl_ints (JobV.sch J)) (mR (l1 h0)))) (fun h0 => (mN (pl_ints (JobV.sch J)) (mQ (TriL.done (by kernel_rfl) (l2 h0)))))))
noncomputable abbrev he_d3_d0 (J : JobV) : Desc := ⟨[(2, .bool false)], [pvRows J.ps, d5Rows J.ds, srcRows J.ss, t4Rows J.pan, t4Rows J.sto, filRows J.fl, .cells (intsC J.sch) 3 true]⟩
theorem he_d3_r0 (J : JobV) {Q : CRes → List VObj → Prop} (hq : Q (.ret (.bool false)) (he_d3_d0 J).objs) : FinT Tryz.prog 12 125 7 Q .ret (he_d3_d0 J) := FinT.ret (vs := [.bool false]) (l := []) (bs := [0, 1, 2, 3, 4, 5, 6]) (pl := [6]) (q := [intsC (JobV.sch J)]) (fun u => by kernel_rfl) (by kernel_rfl) (pls_cons (pl_ints (JobV.sch J)) pls_nil) hq
noncomputable abbrev xhe_i5 (J : JobV) : Desc := ⟨[], [pvRows J.ps, d5Rows J.ds, srcRows J.ss, t4Rows J.pan, t4Rows J.sto, filRows J.fl, .cells (intsC J.sch) 3 true]⟩
theorem he_d3 (J : JobV) {Q : VEx → Desc → Prop} (pl0 : List.all (intsC (JobV.sch J)) isScal = true) (l1 : Q (.ret) (he_d3_d0 J)) : TriL Tryz.prog 125 7 (Lpenstocklaw27_heavy.drop 9) (xhe_i5 J) Q :=
 TriL.tree plainN mixed calls0 (lf := 50) (m := 1000) (s := (.leaf [2] [0, 1, 2, 3, 4, 5, 6] [6])) (fun u => by kernel_rfl) (mN (pl_ints (JobV.sch J)) (mR l1))
noncomputable def jheavy (J : JobV) : Bool := !@decide (JLight J) (Classical.propDecidable _)
theorem jheavy_yes {J : JobV} (h : ¬ JLight J) : jheavy J = true := by unfold jheavy; rw [@decide_eq_false _ (Classical.propDecidable _) h]; rfl
theorem jheavy_no {J : JobV} (h : JLight J) : jheavy J = false := by unfold jheavy; rw [@decide_eq_true _ (Classical.propDecidable _) h]; rfl
theorem jheavy_inv {J : JobV} (h : jheavy J = false) : JLight J := by
 by_cases hl : JLight J
 ·exact hl
 ·rw [jheavy_yes hl] at h; cases h
abbrev hOb (J : JobV) : List VObj := [pvRows J.ps, d5Rows J.ds, srcRows J.ss, t4Rows J.pan, t4Rows J.sto, filRows J.fl, .cells (intsC J.sch) 3 true, boxJ J]
theorem heavy_fn (J : JobV) : FnT Tryz.prog 12 [.agg (jobA J 0).toArray] (jobO J) fun r q => r = .ret (.bool (jheavy J)) ∧ q = jobO J := by
 have pp : (intsC J.sch).all isScal = true := by simp
 refine FnT.ofT (n := slotsC Tryz.prog 12) (by kernel_rfl) ?_
 apply he_a J pp
 case l1 => intro g; have g := of_decide_eq_true g; rw [jheavy_yes fun h => by have := h.ps; omega]; exact he_a_r0 J ⟨rfl, rfl⟩
 case l2 => intro _ g; have g := of_decide_eq_true g; rw [jheavy_yes fun h => by have := h.ds; omega]; exact he_a_r1 J ⟨rfl, rfl⟩
 case l3 => intro _ _ g; have g := of_decide_eq_true g; rw [jheavy_yes fun h => by have := h.ss; omega]; exact he_a_r2 J ⟨rfl, rfl⟩
 case l4 => intro _ _ _ g; have g := of_decide_eq_true g; rw [jheavy_yes fun h => by have := h.pan; omega]; exact he_a_r3 J ⟨rfl, rfl⟩
 case l5 => intro _ _ _ _ g; have g := of_decide_eq_true g; rw [jheavy_yes fun h => by have := h.sto; omega]; exact he_a_r4 J ⟨rfl, rfl⟩
 case l6 => intro _ _ _ _ _ g; have g := of_decide_eq_true g; rw [jheavy_yes fun h => by have := h.fl; omega]; exact he_a_r5 J ⟨rfl, rfl⟩
 case l7 => intro _ _ _ _ _ _ g; have g := of_decide_eq_true g; rw [jheavy_yes fun h => by have := h.sch; omega]; exact he_a_r6 J ⟨rfl, rfl⟩
 case l8 =>
  intro gps gds gss gpan gsto gfl gsch
  have gps := of_decide_eq_false gps
  have gds := of_decide_eq_false gds
  have gss := of_decide_eq_false gss
  have gpan := of_decide_eq_false gpan
  have gsto := of_decide_eq_false gsto
  have gfl := of_decide_eq_false gfl
  have gsch := of_decide_eq_false gsch
  refine TriL.blockAt 4 0 (by kernel_rfl) ?_
  refine TriL.loopAt (fun i : Nat => ⟨[(1, .pointer (some ⟨7, 0, none⟩)), (3, .int .i64 (i : Int))], hOb J⟩) (fun i => J.ps.length - i) (fun i => i ≤ J.ps.length ∧ ∀ x ∈ J.ps.take i, x.a.size ≤ 300 ∧ x.b.size ≤ 300) 0 (by kernel_rfl) ⟨Nat.zero_le _, fun x h => by simp at h⟩ ?_
  rintro i ⟨hi, heb⟩
  apply he_b1 J i pp
  case l1 =>
   intro g
   have g := of_decide_eq_true g
   have hlt : i < J.ps.length := by omega
   have hs := getD_at (z := pvZ) hlt
   have hmem := List.getElem_mem hlt
   apply he_b2 J i hlt (by omega) pp
   case l1 =>
    intro g2
    rw [hs] at g2
    have g2 := of_decide_eq_true g2
    rw [jheavy_yes fun h => by have := h.pe _ hmem; omega]
    repeat (first | with_reducible refine QL.ret ?_ | with_reducible refine QL.exit ?_ | with_reducible refine QB.ret ?_ | with_reducible refine QB.hit ?_ | with_reducible refine QB.normal ?_ | with_reducible refine QB.miss (by rfl) ?_)
    exact he_b2_r0 J i ⟨rfl, rfl⟩
   case l2 =>
    intro _ g2
    rw [hs] at g2
    have g2 := of_decide_eq_true g2
    rw [jheavy_yes fun h => by have := h.pe _ hmem; omega]
    repeat (first | with_reducible refine QL.ret ?_ | with_reducible refine QL.exit ?_ | with_reducible refine QB.ret ?_ | with_reducible refine QB.hit ?_ | with_reducible refine QB.normal ?_ | with_reducible refine QB.miss (by rfl) ?_)
    exact he_b2_r1 J i ⟨rfl, rfl⟩
   case l3 =>
    intro y0 y1
    rw [hs] at y0
    have y0 := of_decide_eq_false y0
    rw [hs] at y1
    have y1 := of_decide_eq_false y1
    refine QL.to (i + 1) ⟨by omega, fun x hx => ?_⟩ (by omega) ?_
    ·rw [List.take_succ_eq_append_getElem hlt] at hx
     rcases List.mem_append.1 hx with hx | hx
     ·exact heb x hx
     ·rw [List.mem_singleton.1 hx]; omega
    ·unfold he_b2_d2
     rw [w64' (z := (i : Int) + 1) (by omega) (by omega)]
     rfl
  case l2 =>
   intro g
   have g := of_decide_eq_false g
   rw [List.take_of_length_le (by omega)] at heb
   repeat (first | with_reducible refine QL.ret ?_ | with_reducible refine QL.exit ?_ | with_reducible refine QB.ret ?_ | with_reducible refine QB.hit ?_ | with_reducible refine QB.normal ?_ | with_reducible refine QB.miss (by rfl) ?_)
   apply he_b3 J pp
   rw [List.drop_drop]
   refine TriL.blockAt 6 2 (by kernel_rfl) ?_
   refine TriL.loopAt (fun i : Nat => ⟨[(1, .pointer (some ⟨7, 0, none⟩)), (4, .int .i64 (i : Int))], hOb J⟩) (fun i => J.ss.length - i) (fun i => i ≤ J.ss.length ∧ ∀ x ∈ J.ss.take i, x.b.size ≤ 5000 ∧ x.cuts.length ≤ 300) 0 (by kernel_rfl) ⟨Nat.zero_le _, fun x h => by simp at h⟩ ?_
   rintro i ⟨hi, hec⟩
   apply he_c1 J i pp
   case l1 =>
    intro g
    have g := of_decide_eq_true g
    have hlt : i < J.ss.length := by omega
    have hs := getD_at (z := srcZ) hlt
    have hmem := List.getElem_mem hlt
    apply he_c2 J i hlt (by omega) pp
    case l1 =>
     intro g2
     rw [hs] at g2
     have g2 := of_decide_eq_true g2
     rw [jheavy_yes fun h => by have := h.se _ hmem; omega]
     repeat (first | with_reducible refine QL.ret ?_ | with_reducible refine QL.exit ?_ | with_reducible refine QB.ret ?_ | with_reducible refine QB.hit ?_ | with_reducible refine QB.normal ?_ | with_reducible refine QB.miss (by rfl) ?_)
     exact he_c2_r0 J i ⟨rfl, rfl⟩
    case l2 =>
     intro _ g2
     rw [hs] at g2
     have g2 := of_decide_eq_true g2
     rw [jheavy_yes fun h => by have := h.se _ hmem; omega]
     repeat (first | with_reducible refine QL.ret ?_ | with_reducible refine QL.exit ?_ | with_reducible refine QB.ret ?_ | with_reducible refine QB.hit ?_ | with_reducible refine QB.normal ?_ | with_reducible refine QB.miss (by rfl) ?_)
     exact he_c2_r1 J i ⟨rfl, rfl⟩
    case l3 =>
     intro y0 y1
     rw [hs] at y0
     have y0 := of_decide_eq_false y0
     rw [hs] at y1
     have y1 := of_decide_eq_false y1
     refine QL.to (i + 1) ⟨by omega, fun x hx => ?_⟩ (by omega) ?_
     ·rw [List.take_succ_eq_append_getElem hlt] at hx
      rcases List.mem_append.1 hx with hx | hx
      ·exact hec x hx
      ·rw [List.mem_singleton.1 hx]; omega
     ·unfold he_c2_d2
      rw [w64' (z := (i : Int) + 1) (by omega) (by omega)]
      rfl
   case l2 =>
    intro g
    have g := of_decide_eq_false g
    rw [List.take_of_length_le (by omega)] at hec
    repeat (first | with_reducible refine QL.ret ?_ | with_reducible refine QL.exit ?_ | with_reducible refine QB.ret ?_ | with_reducible refine QB.hit ?_ | with_reducible refine QB.normal ?_ | with_reducible refine QB.miss (by rfl) ?_)
    apply he_c3 J pp
    rw [List.drop_drop]
    refine TriL.blockAt 8 4 (by kernel_rfl) ?_
    refine TriL.loopAt (fun i : Nat => ⟨[(1, .pointer (some ⟨7, 0, none⟩)), (5, .int .i64 (i : Int))], hOb J⟩) (fun i => J.fl.length - i) (fun i => i ≤ J.fl.length ∧ ∀ x ∈ J.fl.take i, x.fs.length ≤ 300) 0 (by kernel_rfl) ⟨Nat.zero_le _, fun x h => by simp at h⟩ ?_
    rintro i ⟨hi, hed⟩
    apply he_d1 J i pp
    case l1 =>
     intro g
     have g := of_decide_eq_true g
     have hlt : i < J.fl.length := by omega
     have hs := getD_at (z := filZ) hlt
     have hmem := List.getElem_mem hlt
     apply he_d2 J i hlt (by omega) pp
     case l1 =>
      intro g2
      rw [hs] at g2
      have g2 := of_decide_eq_true g2
      rw [jheavy_yes fun h => by have := h.fe _ hmem; omega]
      repeat (first | with_reducible refine QL.ret ?_ | with_reducible refine QL.exit ?_ | with_reducible refine QB.ret ?_ | with_reducible refine QB.hit ?_ | with_reducible refine QB.normal ?_ | with_reducible refine QB.miss (by rfl) ?_)
      exact he_d2_r0 J i ⟨rfl, rfl⟩
     case l2 =>
      intro y0
      rw [hs] at y0
      have y0 := of_decide_eq_false y0
      refine QL.to (i + 1) ⟨by omega, fun x hx => ?_⟩ (by omega) ?_
      ·rw [List.take_succ_eq_append_getElem hlt] at hx
       rcases List.mem_append.1 hx with hx | hx
       ·exact hed x hx
       ·rw [List.mem_singleton.1 hx]; omega
      ·unfold he_d2_d1
       rw [w64' (z := (i : Int) + 1) (by omega) (by omega)]
       rfl
    case l2 =>
     intro g
     have g := of_decide_eq_false g
     rw [List.take_of_length_le (by omega)] at hed
     repeat (first | with_reducible refine QL.ret ?_ | with_reducible refine QL.exit ?_ | with_reducible refine QB.ret ?_ | with_reducible refine QB.hit ?_ | with_reducible refine QB.normal ?_ | with_reducible refine QB.miss (by rfl) ?_)
     apply he_d3 J pp
     rw [jheavy_no ⟨by omega, by omega, by omega, by omega, by omega, by omega, by omega, heb, hec, hed⟩]
     exact he_d3_r0 J ⟨rfl, rfl⟩
end Go.Proofs.YtgepfmamfdmclaaGreatDoor
