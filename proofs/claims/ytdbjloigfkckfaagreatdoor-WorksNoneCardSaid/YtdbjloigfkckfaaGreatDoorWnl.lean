/- WorksNone answers true. -/
import Derived.Test.YtdbjloigfkckfaaGreatDoorAwn
import Derived.Test.YtdbjloigfkckfaaGreatDoorWorksNoneCd
import Derived.KernelRfl
namespace Go.Proofs.YtdbjloigfkckfaaGreatDoor
open Go Vm Go.RowKit
set_option linter.unusedVariables false
set_option linter.unusedSimpArgs false
set_option maxRecDepth 100000
set_option maxHeartbeats 8000000

noncomputable def tblW : List (FuncId × Sum) := (17, ⟨namesA, fun a o => match a, o with
  | [], [] => .done (.ret (.bool true), [])
  | _, _ => .fail⟩) :: tblC1
theorem callsW : CallsOk Tryz.prog (callT Tryz.prog (tblL tblW) 1000 60) := callT_ok plainN mixed (tblL_ok (.cons (FnOk.closed aw23_fn) (.cons join_ok .nil))) 1000 60
noncomputable def Lpenstocklaw23_WorksNone : List Code := flat2 (bodyC Tryz.prog 4)
abbrev wn_d0  : Desc := ⟨[(0, .bool true)], []⟩
theorem wn_r0  {Q : CRes → List VObj → Prop}  (hq : Q (.ret (.bool true)) []) : FinT Go.Proofs.Tryz.prog 4 57 0 Q .ret (wn_d0 ) := FinT.ret (vs := [.bool true]) (l := []) (bs := []) (pl := []) (q := []) (fun u => by kernel_rfl) (by kernel_rfl) pls_nil hq
theorem wn_s  (u : Nat → Value) : (codesO Tryz.prog (callT Tryz.prog (tblL tblW) 1000 60) 1000 (Lpenstocklaw23_WorksNone.take 1000) (frU 57 u []) (vsOf [])).sym (leafT 57 0) (.leaf [0] [] []) = some (.leaf (.ret) (wn_d0 )) := by kernel_rfl
theorem wn  {Q : VEx → Desc → Prop} (l0 : Q (.ret) (wn_d0 )) : TriL Go.Proofs.Tryz.prog 57 0 Lpenstocklaw23_WorksNone ⟨[], []⟩ Q :=
  TriL.tree plainN mixed callsW (m := 1000) (l := Lpenstocklaw23_WorksNone) (d := ⟨[], []⟩) (fun u => wn_s  u) (Tree.mkLeaf (l0 ))

theorem worksNone_fn : FnT Tryz.prog 4 [] [] fun r o => r = .ret (.bool true) ∧ o = [] := by
  refine FnT.ofT (n := slotsC Tryz.prog 4) (by kernel_rfl) ?_
  exact wn (wn_r0 ⟨rfl, rfl⟩)
theorem worksNone_proved : Rows.WorksNoneCardSaid := worksNone_card worksNone_fn

end Go.Proofs.YtdbjloigfkckfaaGreatDoor
