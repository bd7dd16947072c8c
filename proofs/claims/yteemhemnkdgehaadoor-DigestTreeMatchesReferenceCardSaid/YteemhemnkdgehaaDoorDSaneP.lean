/- sane of the statements on digest: its digests. -/
import Derived.Test.YteemhemnkdgehaaDoorDPlain
import Derived.Test.YteemhemnkdgehaaDoorDExt
import Derived.Test.YteemhemnkdgehaaDoorDHex
namespace Go.Proofs.YteemhemnkdgehaaDoor

def L3 : List Bytes := [[97], [98], [99]]
def hexOne : Bytes := [101, 51, 98, 48, 99, 52, 52, 50, 57, 56, 102, 99, 49, 99, 49, 52, 57, 97, 102, 98, 102, 52, 99, 56, 57, 57, 54, 102, 98, 57, 50, 52, 50, 55, 97, 101, 52, 49, 101, 52, 54, 52, 57, 98, 57, 51, 52, 99, 97, 52, 57, 53, 57, 57, 49, 98, 55, 56, 53, 50, 98, 56, 53, 53]
def hexTwo : Bytes := [98, 97, 55, 56, 49, 54, 98, 102, 56, 102, 48, 49, 99, 102, 101, 97, 52, 49, 52, 49, 52, 48, 100, 101, 53, 100, 97, 101, 50, 50, 50, 51, 98, 48, 48, 51, 54, 49, 97, 51, 57, 54, 49, 55, 55, 97, 57, 99, 98, 52, 49, 48, 102, 102, 54, 49, 102, 50, 48, 48, 49, 53, 97, 100]
theorem sane_h1 : hexB (sha []) = hexOne := by decide +kernel
theorem sane_h2 : hexB (sha [97, 98, 99]) = hexTwo := by decide +kernel
theorem sane_p1 : (proofE L3 2).2 = 0 := by decide +kernel
theorem sane_p2 : (proofE L3 2).1.length = 1 := by decide +kernel
theorem sane_e1 : (extE L3 1).2 = 0 := by decide +kernel
theorem sane_e2 : (extE L3 1).1.length = 2 := by decide +kernel
theorem sane_p3 : (proofE L3 3).2 = 2 := by decide +kernel
theorem sane_v1 : verB (rootL L3) 3 2 [99] (proofE L3 2).1 = true := by decide +kernel
theorem sane_v2 : verB (rootL L3) 3 2 [100] (proofE L3 2).1 = false := by decide +kernel
theorem sane_x1 : verExtB (rootL [[97]]) 1 (rootL L3) 3 (extE L3 1).1 = true := by decide +kernel
theorem sane_x2 : verExtB (rootL [[97], [98]]) 1 (rootL L3) 3 (extE L3 1).1 = false := by decide +kernel
end Go.Proofs.YteemhemnkdgehaaDoor
