/- What is known of every world of a walk (of the tables that a program's start lays): here nothing. -/
import Derived.Below
namespace Go.Proofs.Ytnlkkgpcikkpoaa.Vm
def Gam (w : World) : Prop := True
end Go.Proofs.Ytnlkkgpcikkpoaa.Vm
