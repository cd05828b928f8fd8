/- Facts on the slice types of this translation. -/
import Derived.Test.YtgfdebijcpdhbaaDoorRows
import Derived.Test.YtgfdebijcpdhbaaDoorK
namespace Go.Proofs.YtgfdebijcpdhbaaDoor
theorem slT_i32 : SlT Tryd.prog 24 21 := SlT.mk (z := .int .i32 0) (bytes := 4) (by kernel_rfl) (by kernel_rfl) (by omega) rfl
end Go.Proofs.YtgfdebijcpdhbaaDoor
