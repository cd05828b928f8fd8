/- Walks: kinds of octets: letters, digits and controls. (laid together by program out of single texts). -/
import Derived.Test.YtfhfhfadebcbfaaM5
import Derived.Test.YtfhfhfadebcbfaaM7
namespace Go.Proofs.Ytfhfhfadebcbfaa
open Go.RowKit
set_option maxHeartbeats 2000000
def isAl (c : Int) : Bool := decide (48 ≤ c ∧ c ≤ 57 ∨ 65 ≤ c ∧ c ≤ 90 ∨ 97 ≤ c ∧ c ≤ 122)
def isCtl (c : Int) : Bool := decide (c < 32 ∨ c = 127)
end Go.Proofs.Ytfhfhfadebcbfaa
