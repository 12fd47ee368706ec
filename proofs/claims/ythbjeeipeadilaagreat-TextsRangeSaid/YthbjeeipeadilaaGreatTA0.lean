/- The chapter's chunk of texts, by each codec: closed, reckoned. -/
import Derived.Test.YthbjeeipeadilaaGreatPvS
import Derived.Test.YthbjeeipeadilaaGreatPvZ
import Derived.Test.YthbjeeipeadilaaGreatRD
import Derived.Test.YthbjeeipeadilaaGreatIF
set_option linter.unusedSimpArgs false
set_option linter.unusedVariables false
set_option maxRecDepth 100000
namespace Go.Proofs.YthbjeeipeadilaaGreat
open Go Go.Pv Go.RowKit
def exD : DV := .list [[.int .i64 2, .int .i64 0, .flt .f64 0, .str (bsA [97, 98])], [.int .i64 0, .int .i64 0, .flt .f64 0, .str (bsA [])], [.int .i64 2, .int .i64 0, .flt .f64 0, .str (bsA [98])], [.int .i64 2, .int .i64 0, .flt .f64 0, .str (bsA [97, 98])], [.int .i64 2, .int .i64 0, .flt .f64 0, .str (bsA [97, 98, 99])]]
def colD : DV := .agg [.str (bsA [116]), .int .i64 2, .bool true]
def codD : DV := .list [[.int .i64 1, .int .i64 0], [.int .i64 2, .int .i64 0], [.int .i64 3, .int .i64 0]]
def predD : DV := .agg [.int .i64 5, .str (bsA [116]), .int .i64 0, .int .i64 2, .int .i64 0, .flt .f64 0, .str (bsA [97, 98]), .nils, .nils]
def setD (n w : Int) : DV := .pim [.int .i64 n, .list [[.int .u64 w]]]
def chkD1 : DV := (.pim [(.str (bsA [116])), (.int .i64 2), (.bool true), (.int .i64 1), (.int .i64 0), (.pim [(.int .i64 5), (.list [[(.int .u64 2)]])]), (.iface 163 (.agg [(.list [[(.str (bsA [97, 98]))], [(.str (bsA [98]))], [(.str (bsA [97, 98]))], [(.str (bsA [97, 98, 99]))]])]))])
def chkD2 : DV := (.pim [(.str (bsA [116])), (.int .i64 2), (.bool true), (.int .i64 2), (.int .i64 0), (.pim [(.int .i64 5), (.list [[(.int .u64 2)]])]), (.iface 160 (.agg [(.list [[(.str (bsA [97, 98]))], [(.str (bsA [97, 98, 99]))], [(.str (bsA [98]))]]), (.list [[(.int .u8 72)]]), (.int .i64 2), (.int .i64 4)]))])
def chkD3 : DV := (.pim [(.str (bsA [116])), (.int .i64 2), (.bool true), (.int .i64 3), (.int .i64 0), (.pim [(.int .i64 5), (.list [[(.int .u64 2)]])]), (.iface 147 (.agg [(.list [[(.str (bsA [97, 98])), (.int .i64 1)], [(.str (bsA [98])), (.int .i64 1)], [(.str (bsA [97, 98])), (.int .i64 1)], [(.str (bsA [97, 98, 99])), (.int .i64 1)]])]))])
end Go.Proofs.YthbjeeipeadilaaGreat
