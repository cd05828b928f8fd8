/- The library's tables as they are laid; the heap that the door's own run leaves meets the condition (turned from the kit's worked card). (laid together by program out of single texts). -/
import Derived.Test.YtcmiopkcgoanpaaDoorTie
import Derived.Test.YtcmiopkcgoanpaaDoorCards
import Derived.LaidMore
import Derived.Lay
import Derived.Stop.Joined
import Derived.Stop.LaidErr
import Derived.Lib.LaidTab
import Derived.Test.YtcmiopkcgoanpaaDoorM23
namespace Go.Proofs.YtcmiopkcgoanpaaDoor
open Go.RowKit
set_option maxRecDepth 100000
def laid2 : List (String × DataW Unit) := [("unicode/utf8.acceptRanges", Rows.laid_unicode_utf8_acceptRanges), ("unicode/utf8.first", Rows.laid_unicode_utf8_first)]
theorem door_met (os : Os) (args : Array Value) : laidMetH Tryd.prog laid2 ((World.laidAll Tryd.prog os laid2).forCall (fun _ _ => 0) ⟨#[], args, []⟩).memory := by
  rw [MakeChecks.laidMetH_plain _ _ _ (by kernel_rfl)]
  exact laidMet_laidAll _ (by kernel_rfl) (by kernel_rfl)
theorem of_laid {W : World} (_ : laidMetH Tryd.prog laid2 W) : Tz W := trivial
end Go.Proofs.YtcmiopkcgoanpaaDoor
