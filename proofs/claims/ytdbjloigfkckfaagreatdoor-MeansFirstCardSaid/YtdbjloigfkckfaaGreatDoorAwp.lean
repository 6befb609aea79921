/- Law 21's awake, closed: its two calls of means.all are told. -/
import Derived.Test.YtdbjloigfkckfaaGreatDoorCft
import Derived.KernelRfl
namespace Go.Proofs.YtdbjloigfkckfaaGreatDoor
open Go Vm Go.RowKit
set_option linter.unusedVariables false
set_option linter.unusedSimpArgs false
set_option maxRecDepth 100000
set_option maxHeartbeats 8000000

noncomputable def tblA : List (FuncId × Sum) := (42, Sum.ofR Tryz.prog (toldSpec [ca_t, cd_t])) :: tblC1
theorem callsA : CallsOk Tryz.prog (callT Tryz.prog (tblL tblA) 1000 60) :=
  callT_ok plainN mixed (tblL_ok (.cons (FnOk.told fun t ht => by
    rcases List.mem_cons.1 ht with rfl | ht
    · exact ca_fn
    rcases List.mem_cons.1 ht with rfl | ht
    · exact cd_fn
    cases ht) (.cons join_ok .nil))) 1000 60
noncomputable def Lpenstocklaw21_awake : List Code := flat2 (bodyC Tryz.prog 5)
abbrev aw_d0  : Desc := ⟨[(0, .bool true)], []⟩
theorem aw_r0  {Q : CRes → List VObj → Prop}  (hq : Q (.ret (.bool true)) []) : FinT Go.Proofs.Tryz.prog 5 74 0 Q .ret (aw_d0 ) := FinT.ret (vs := [.bool true]) (l := []) (bs := []) (pl := []) (q := []) (fun u => by kernel_rfl) (by kernel_rfl) pls_nil hq
theorem aw_s  (u : Nat → Value) : (codesO Tryz.prog (callT Tryz.prog (tblL tblA) 1000 60) 1000 (Lpenstocklaw21_awake.take 1000) (frU 74 u []) (vsOf [])).sym (leafT 74 0) (.leaf [0] [] []) = some (.leaf (.ret) (aw_d0 )) := by kernel_rfl
theorem aw  {Q : VEx → Desc → Prop} (l0 : Q (.ret) (aw_d0 )) : TriL Go.Proofs.Tryz.prog 74 0 Lpenstocklaw21_awake ⟨[], []⟩ Q :=
  TriL.tree plainN mixed callsA (m := 1000) (l := Lpenstocklaw21_awake) (d := ⟨[], []⟩) (fun u => aw_s  u) (Tree.mkLeaf (l0 ))

end Go.Proofs.YtdbjloigfkckfaaGreatDoor
