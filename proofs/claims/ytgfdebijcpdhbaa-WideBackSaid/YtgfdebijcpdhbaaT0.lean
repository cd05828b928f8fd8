/- Facts on the slice types of this translation. -/
import Derived.Test.YtgfdebijcpdhbaaRows
import Derived.Test.YtgfdebijcpdhbaaK
namespace Go.Proofs.Ytgfdebijcpdhbaa
theorem slT_i32 : SlT Try.prog 22 21 := SlT.mk (z := .int .i32 0) (bytes := 4) (by kernel_rfl) (by kernel_rfl) (by omega) rfl
theorem slT_u16 : SlT Try.prog 54 66 := SlT.mk (z := .int .u16 0) (bytes := 2) (by kernel_rfl) (by kernel_rfl) (by omega) rfl
theorem slT_u8 : SlT Try.prog 24 5 := SlT.mk (z := .int .u8 0) (bytes := 1) (by kernel_rfl) (by kernel_rfl) (by omega) rfl
theorem slT_int : SlT Try.prog 63 3 := SlT.mk (z := .int .i64 0) (bytes := 8) (by kernel_rfl) (by kernel_rfl) (by omega) rfl
end Go.Proofs.Ytgfdebijcpdhbaa
