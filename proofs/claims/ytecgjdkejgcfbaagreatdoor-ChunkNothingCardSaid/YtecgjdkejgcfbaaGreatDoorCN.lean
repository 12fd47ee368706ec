/- ChunkNothing: the law's answer. -/
import Derived.Test.YtecgjdkejgcfbaaGreatDoorRD
import Derived.Test.YtecgjdkejgcfbaaGreatDoorIF
import Derived.Test.YtecgjdkejgcfbaaGreatDoorChecked
namespace Go.Proofs.YtecgjdkejgcfbaaGreatDoor
open Go Go.Pv Go.RowKit
set_option maxRecDepth 100000
theorem lawNothing : FnC Tryz.prog 3 [] (· = .bool true) := runX_true (readOK extOK) 1000 100 (by kernel_rfl)
end Go.Proofs.YtecgjdkejgcfbaaGreatDoor
