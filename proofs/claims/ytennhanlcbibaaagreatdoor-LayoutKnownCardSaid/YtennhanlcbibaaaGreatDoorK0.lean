/- The program follows the orders that the runs ask for. -/
import Derived.Test.YtennhanlcbibaaaGreatDoorL9
import Derived.Test.YtennhanlcbibaaaGreatDoorProg
namespace Go.Proofs.YtennhanlcbibaaaGreatDoor
open Go
theorem hm : Tryz.prog.follows .mixedOrders = true := by kernel_rfl
end Go.Proofs.YtennhanlcbibaaaGreatDoor
