/- Law 18's awake, closed. -/
import Derived.Test.YtnlkkgpcikkpoaaCall0
import Derived.KernelRfl
namespace Go.Proofs.Ytnlkkgpcikkpoaa
open Go Vm Go.RowKit
set_option maxRecDepth 100000
noncomputable def Lpenstocklaw18_awake : List Code := flat2 (bodyC Try.prog 6)
abbrev aw_d0  : Desc := ⟨[(0, .bool true)], []⟩
theorem aw_r0  {Q : CRes → List VObj → Prop}  (hq : Q (.ret (.bool true)) []) : FinT Go.Proofs.Try.prog 6 45 0 Q .ret (aw_d0 ) := FinT.ret (vs := [.bool true]) (l := []) (bs := []) (pl := []) (q := []) (fun u => by kernel_rfl) (by kernel_rfl) pls_nil hq
theorem aw_s  (u : Nat → Value) : (codesO Try.prog (callT Try.prog tbl0 1000 40) 1000 (Lpenstocklaw18_awake.take 1000) (frU 45 u []) (vsOf [])).sym (leafT 45 0) (.leaf [0] [] []) = some (.leaf (.ret) (aw_d0 )) := by kernel_rfl
theorem aw  {Q : VEx → Desc → Prop} (l0 : Q (.ret) (aw_d0 )) : TriL Go.Proofs.Try.prog 45 0 Lpenstocklaw18_awake ⟨[], []⟩ Q :=
  TriL.tree plainN mixed (callsL 1000) (m := 1000) (l := Lpenstocklaw18_awake) (d := ⟨[], []⟩) (fun u => aw_s  u) (Tree.mkLeaf (l0 ))
end Go.Proofs.Ytnlkkgpcikkpoaa
