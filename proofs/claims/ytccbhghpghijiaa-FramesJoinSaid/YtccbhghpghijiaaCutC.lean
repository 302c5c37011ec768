/- frame.Fill, Clean, Put, whole. -/
import Derived.Test.YtccbhghpghijiaaCutB
namespace Go.Proofs.Ytccbhghpghijiaa
open Go.RowKit

end Go.Proofs.Ytccbhghpghijiaa
