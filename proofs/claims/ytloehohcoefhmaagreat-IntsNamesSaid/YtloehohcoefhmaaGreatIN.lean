/- IntsNames: the law's answer. -/
import Derived.Test.YtloehohcoefhmaaGreatPvY
import Derived.Test.YtloehohcoefhmaaGreatChecked
namespace Go.Proofs.YtloehohcoefhmaaGreat
open Go Go.Pv Go.RowKit
set_option maxRecDepth 100000
theorem lawNames : FnC Tryz.prog 3 [] (· = .bool true) := runX_true noExt 1000 60 (by kernel_rfl)
end Go.Proofs.YtloehohcoefhmaaGreat
