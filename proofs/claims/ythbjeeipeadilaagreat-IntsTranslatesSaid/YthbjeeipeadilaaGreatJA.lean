/- IntsTranslates: the closed part. -/
import Derived.Test.YthbjeeipeadilaaGreatRD
import Derived.Test.YthbjeeipeadilaaGreatIF
import Derived.Test.YthbjeeipeadilaaGreatChecked
namespace Go.Proofs.YthbjeeipeadilaaGreat
open Go Go.Pv Go.RowKit
set_option maxRecDepth 100000
theorem awake19 : FnC Tryz.prog 13 [] (· = .bool true) := runX_true (readOK extOK) 1000 100 (by kernel_rfl)
end Go.Proofs.YthbjeeipeadilaaGreat
