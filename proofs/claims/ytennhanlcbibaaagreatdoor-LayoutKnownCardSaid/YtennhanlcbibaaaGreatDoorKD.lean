/- The calls that the example makes, each run by the kernel. -/
import Derived.Test.YtennhanlcbibaaaGreatDoorKC
set_option maxRecDepth 100000
namespace Go.Proofs.YtennhanlcbibaaaGreatDoor
open Go Go.Proofs.YtennhanlcbibaaaGreatDoor.Lb

theorem khd58 : isHead Tryz.prog (kcfg km57) 100000 Tryz.f9.ntmps 4 (bodyA Tryz.prog 9) (Tr.ofArgs ka74) kT58 kH58 kD58 = true := by decide +kernel
end Go.Proofs.YtennhanlcbibaaaGreatDoor
