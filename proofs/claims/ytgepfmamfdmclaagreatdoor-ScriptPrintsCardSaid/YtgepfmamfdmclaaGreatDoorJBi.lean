/- Part of the proof: Caw, Awg. -/
import Derived.Test.YtgepfmamfdmclaaGreatDoorJAq
import Derived.Test.YtgepfmamfdmclaaGreatDoorJBe
import Derived.Test.YtgepfmamfdmclaaGreatDoorJBh
import Derived.KernelRfl
set_option linter.unusedVariables false
set_option linter.unusedSimpArgs false
set_option maxRecDepth 100000
namespace Go.Proofs.YtgepfmamfdmclaaGreatDoor
open Go Vm Go.RowKit
noncomputable def tblW : List (FuncId × Sum) := [(8, Sum.ofR Tryz.prog (toldSpec [cp_t])), (32, Sum.ofR Tryz.prog (toldSpec [cr_t])), (33, Sum.ofR Tryz.prog (toldSpec [ct_t]))]
theorem callsW : CallsOk Tryz.prog (callT Tryz.prog (tblL tblW) 1000 60) :=
 callT_ok plainN mixed (tblL_ok (.cons (FnOk.told fun t ht => by
  rcases List.mem_cons.1 ht with rfl | ht
  ·exact cp_fn
  cases ht) (.cons (FnOk.told fun t ht => by
  rcases List.mem_cons.1 ht with rfl | ht
  ·exact cr_fn
  cases ht) (.cons (FnOk.told fun t ht => by
  rcases List.mem_cons.1 ht with rfl | ht
  ·exact ct_fn
  cases ht) .nil)))) 1000 60
noncomputable def Lpenstocklaw27_awake : List Code := flat2 (bodyC Tryz.prog 7)
abbrev aw27_d0  : Desc := ⟨[(0, .bool true)], []⟩
theorem aw27_r0 {Q : CRes → List VObj → Prop} (hq : Q (.ret (.bool true)) (aw27_d0 ).objs) : FinT Go.Proofs.Tryz.prog 7 51 0 Q .ret (aw27_d0 ) := FinT.ret (vs := [.bool true]) (l := []) (bs := []) (pl := []) (q := []) (fun u => by kernel_rfl) (by kernel_rfl) pls_nil hq
theorem aw27  {Q : VEx → Desc → Prop} (l0 : Q (.ret) (aw27_d0 )) : TriL Go.Proofs.Tryz.prog 51 0 Lpenstocklaw27_awake ⟨[], []⟩ Q :=
 TriL.tree plainN mixed callsW (lf := 1000) (m := 1000) (s := (.leaf [0] [] [])) (fun u => by kernel_rfl) (Tree.mkR (l0 ))
theorem aw27_fn : FnT Tryz.prog 7 [] [] fun r o => r = .ret (.bool true) ∧ o = [] := by
 refine FnT.ofT (n := slotsC Tryz.prog 7) (by kernel_rfl) ?_
 exact aw27 (aw27_r0 ⟨rfl, rfl⟩)
end Go.Proofs.YtgepfmamfdmclaaGreatDoor
