/- AggNames: the law's answer. -/
import Derived.Test.YtecgjdkejgcfbaaDoorIC
import Derived.Test.YtecgjdkejgcfbaaDoorChecked
namespace Go.Proofs.YtecgjdkejgcfbaaDoor
open Go Go.Pv Go.RowKit
set_option maxRecDepth 100000
theorem lawNames : FnC Tryd.prog 3 [] (· = .bool true) := runX_true cloneOK 1000 60 (by kernel_rfl)
end Go.Proofs.YtecgjdkejgcfbaaDoor
