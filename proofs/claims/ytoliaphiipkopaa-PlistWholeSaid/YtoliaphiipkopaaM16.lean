/- Walks: scalar values. (laid together by program out of single texts). -/
import Derived.Test.YtoliaphiipkopaaRows
import Derived.Test.YtoliaphiipkopaaM1
import Derived.Test.YtoliaphiipkopaaM4
namespace Go.Proofs.Ytoliaphiipkopaa
open Go.RowKit
set_option maxHeartbeats 400000

end Go.Proofs.Ytoliaphiipkopaa
