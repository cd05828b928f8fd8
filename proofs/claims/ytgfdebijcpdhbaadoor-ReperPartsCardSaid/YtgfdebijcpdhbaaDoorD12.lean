/- The library's table as it is laid; the heap that the door's own run leaves meets the condition (turned from the kit's worked card). -/
import Derived.Test.YtgfdebijcpdhbaaDoorS12b
import Derived.Test.YtgfdebijcpdhbaaDoorTie
import Derived.Test.YtgfdebijcpdhbaaDoorCards
import Derived.LaidMore
import Derived.Stop.Joined
import Derived.Stop.LaidErr
import Derived.Lib.LaidTab
namespace Go.Proofs.YtgfdebijcpdhbaaDoor
open Go.RowKit
set_option maxRecDepth 100000
def laid2 : List (String × DataW Unit) := [("math/bits.deBruijn32tab", Rows.laid_math_bits_deBruijn32tab), ("math/bits.deBruijn64tab", Rows.laid_math_bits_deBruijn64tab)]
theorem gT : Tryd.prog.globalNamed "math/bits.deBruijn64tab" = some 1 := by kernel_rfl
theorem gTType : (Tryd.prog.globals[1]?).map (·.type) = some 55 := by kernel_rfl
theorem door_met (os : Os) (args : Array Value) : laidMetH Tryd.prog laid2 ((World.doorLaid Tryd.prog 400 os).forCall (fun _ _ => 0) ⟨#[], args, []⟩).memory :=
  laidMetH_of_parts3 (fuel := 8) (laidMet_of_run' 8 (by kernel_rfl) (by kernel_rfl)) (by kernel_rfl) (by kernel_rfl)
theorem of_laid {W : World} (h : laidMetH Tryd.prog laid2 W) : Tz W := by
  rw [MakeChecks.laidMetH_plain _ _ _ (by kernel_rfl)] at h
  have h2 := laidMet.tail h
  have hT := Lib.tabIs_of_head (k := .u8) (zs := tab64) (rest := []) gT gTType Tryd.underlying55 Tryd.underlying5 (by kernel_rfl) (by kernel_rfl) h2
  exact fun i hi => hT.cell gT i hi
end Go.Proofs.YtgfdebijcpdhbaaDoor
