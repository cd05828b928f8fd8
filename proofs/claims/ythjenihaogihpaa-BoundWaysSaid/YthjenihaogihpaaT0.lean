/- Facts on the slice types of this translation. -/
import Derived.Test.YthjenihaogihpaaRows
import Derived.Test.YthjenihaogihpaaK
namespace Go.Proofs.Ythjenihaogihpaa
theorem slT_i32 : SlT Try.prog 24 21 := SlT.mk (z := .int .i32 0) (bytes := 4) (by kernel_rfl) (by kernel_rfl) (by omega) rfl
theorem slT_u8 : SlT Try.prog 22 5 := SlT.mk (z := .int .u8 0) (bytes := 1) (by kernel_rfl) (by kernel_rfl) (by omega) rfl
theorem slT_bb : SlT Try.prog 34 22 := SlT.mk (z := .slice none 0 0) (bytes := 24) (by kernel_rfl) (by kernel_rfl) (by omega) rfl
theorem slT_int : SlT Try.prog 36 3 := SlT.mk (z := .int .i64 0) (bytes := 8) (by kernel_rfl) (by kernel_rfl) (by omega) rfl
end Go.Proofs.Ythjenihaogihpaa
