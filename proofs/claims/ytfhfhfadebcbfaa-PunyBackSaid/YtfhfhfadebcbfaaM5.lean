/- The library's IndexByte: the model's own entry, by its law (turned from the kit's shelf). (laid together by program out of single texts). -/
import Derived.Lib.Strings
import Derived.Lib.Slices
import Derived.Lib.Walk
import Derived.Lib.Bytealg
import Derived.Test.YtfhfhfadebcbfaaM2
namespace Go.Proofs.Ytfhfhfadebcbfaa
open Go.RowKit
end Go.Proofs.Ytfhfhfadebcbfaa
