/- Two facts of the program, for the small machine. -/
import Derived.Test.YtdbjloigfkckfaaGreatDoorChecked
import Derived.KernelRfl
import Derived.Test.YtdbjloigfkckfaaGreatDoorVm15
namespace Go.Proofs.YtdbjloigfkckfaaGreatDoor
theorem plainN : Vm.plainNames Tryz.prog = true := by kernel_rfl
theorem mixed : Tryz.prog.follows .mixedOrders = true := by kernel_rfl
end Go.Proofs.YtdbjloigfkckfaaGreatDoor
