/- Walks: are two lists the same? -/
import Derived.Test.YtgfdebijcpdhbaaDoorT0
namespace Go.Proofs.YtgfdebijcpdhbaaDoor
open Go.RowKit
set_option maxHeartbeats 400000
end Go.Proofs.YtgfdebijcpdhbaaDoor
