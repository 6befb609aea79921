/- Two facts of the program, for the small machine. -/
import Derived.Test.YtgdpahojinknmaaChecked
import Derived.KernelRfl
import Derived.Test.YtgdpahojinknmaaVb
namespace Go.Proofs.Ytgdpahojinknmaa
theorem plainN : Vm.plainNames Try.prog = true := by kernel_rfl
theorem mixed : Try.prog.follows .mixedOrders = true := by kernel_rfl
end Go.Proofs.Ytgdpahojinknmaa
