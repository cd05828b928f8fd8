/- Walks: scalar values. (laid together by program out of single texts). -/
import Derived.Test.YtoliaphiipkopaaDoorRows
import Derived.Test.YtoliaphiipkopaaDoorM1
import Derived.Test.YtoliaphiipkopaaDoorM4
namespace Go.Proofs.YtoliaphiipkopaaDoor
open Go.RowKit
set_option maxHeartbeats 400000

end Go.Proofs.YtoliaphiipkopaaDoor
