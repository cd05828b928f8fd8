/- Facts on the slice types of this translation. -/
import Derived.Test.YtbkhabnjefcmkaaRows
import Derived.Test.YtbkhabnjefcmkaaK
namespace Go.Proofs.Ytbkhabnjefcmkaa
theorem slT_i32 : SlT Try.prog 24 21 := SlT.mk (z := .int .i32 0) (bytes := 4) (by kernel_rfl) (by kernel_rfl) (by omega) rfl
theorem slT_u16 : SlT Try.prog 22 31 := SlT.mk (z := .int .u16 0) (bytes := 2) (by kernel_rfl) (by kernel_rfl) (by omega) rfl
theorem slT_u8 : SlT Try.prog 40 5 := SlT.mk (z := .int .u8 0) (bytes := 1) (by kernel_rfl) (by kernel_rfl) (by omega) rfl
end Go.Proofs.Ytbkhabnjefcmkaa
