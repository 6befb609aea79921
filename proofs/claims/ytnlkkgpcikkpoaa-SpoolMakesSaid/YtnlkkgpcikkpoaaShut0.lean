/- Two facts of the program, for the small machine. -/
import Derived.Test.YtnlkkgpcikkpoaaChecked
import Derived.KernelRfl
import Derived.Test.YtnlkkgpcikkpoaaVb
namespace Go.Proofs.Ytnlkkgpcikkpoaa
theorem plainN : Vm.plainNames Try.prog = true := by kernel_rfl
theorem mixed : Try.prog.follows .mixedOrders = true := by kernel_rfl
end Go.Proofs.Ytnlkkgpcikkpoaa
