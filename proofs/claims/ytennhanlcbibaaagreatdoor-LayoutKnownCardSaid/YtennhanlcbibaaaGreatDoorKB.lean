/- The calls that the example makes, each run by the kernel. -/
import Derived.Test.YtennhanlcbibaaaGreatDoorKA
set_option maxRecDepth 100000
namespace Go.Proofs.YtennhanlcbibaaaGreatDoor
open Go Go.Proofs.YtennhanlcbibaaaGreatDoor.Lb

theorem khd53 : isHead Tryz.prog (kcfg km52) 100000 Tryz.f9.ntmps 4 (bodyA Tryz.prog 9) (Tr.ofArgs ka6) kT53 kH53 kD53 = true := by decide +kernel
end Go.Proofs.YtennhanlcbibaaaGreatDoor
