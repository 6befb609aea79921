/- What every seat's pieces need. -/
import Derived.Test.YtnlkkgpcikkpoaaVd
import Derived.Test.YtnlkkgpcikkpoaaShut0
namespace Go.Proofs.Ytnlkkgpcikkpoaa
open Go Vm Go.RowKit
def tbl0 : FuncId → Option Sum := fun _ => none
theorem calls0 : CallsOk Try.prog (callT Try.prog tbl0 50 40) := callT_ok plainN mixed (fun f s h => by cases h) 50 40
theorem callsL (lf : Nat) : CallsOk Try.prog (callT Try.prog tbl0 lf 40) := callT_ok plainN mixed (fun f s h => by cases h) lf 40
end Go.Proofs.Ytnlkkgpcikkpoaa
