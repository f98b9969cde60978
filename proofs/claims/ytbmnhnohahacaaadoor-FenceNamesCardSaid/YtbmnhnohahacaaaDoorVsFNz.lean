/- The card of FenceNames: the law FenceNames answers true in every world that lays the two listed tables of unicode/utf8. Its code is run whole in the kernel (all orders of maps, all orders of evaluation that Go leaves open) by an evaluator that is proved sound, but for slices.SortedFunc over maps.Keys, which is proved by hand. -/
import Derived.Test.YtbmnhnohahacaaaDoorVsFN8
namespace Go.Proofs.YtbmnhnohahacaaaDoor
open Go.RowKit Go.VS Go.Proofs.Trydv
set_option maxRecDepth 100000
theorem names_run : allT (callT γD tblF primD 2000 60 4 [] ⟨.nil, 0⟩) = true := by kernel_rfl
theorem fenceNames_card : Rows.FenceNamesCardSaid := fenceNames.card (calls_of_run tblF_ok (enters_of Tryd.func4 (by kernel_rfl) rfl) names_run)
#print axioms fenceNames_card
end Go.Proofs.YtbmnhnohahacaaaDoor
