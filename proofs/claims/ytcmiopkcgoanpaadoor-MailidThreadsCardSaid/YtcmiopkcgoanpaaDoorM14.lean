/- Walks: scalar values. (laid together by program out of single texts). -/
import Derived.Test.YtcmiopkcgoanpaaDoorRows
import Derived.Test.YtcmiopkcgoanpaaDoorM1
import Derived.Test.YtcmiopkcgoanpaaDoorM4
namespace Go.Proofs.YtcmiopkcgoanpaaDoor
open Go.RowKit
set_option maxHeartbeats 400000

end Go.Proofs.YtcmiopkcgoanpaaDoor
