/- The card of PackNames: the law PackNames answers true in every world that lays the four listed tables. Its code is run whole in the kernel (all orders of maps, all orders of evaluation that Go leaves open) by an evaluator that is proved sound; slices.SortedFunc over maps.Keys and pack.caught are proved by hand. -/
import Derived.Test.YtbmnhnohahacaaaGreatDoorVsPN8
namespace Go.Proofs.YtbmnhnohahacaaaGreatDoor
open Go.RowKit Go.VS Go.Proofs.Tryzv
set_option maxRecDepth 100000
theorem names_run : allT (callT (γZ true) tblZ primD pdZ 2000 60 7 [] ⟨.nil, 0⟩) = true := by kernel_rfl
theorem packNames_card : Rows.PackNamesCardSaid := packNames.card (calls_of_run tblZ_ok (prim_ok _ rfl) (enters_of Tryz.func7 (by kernel_rfl) rfl) names_run)
#print axioms packNames_card
end Go.Proofs.YtbmnhnohahacaaaGreatDoor
