/- The runs of 'LotsSizes' at wide 3. Conditions: none. -/
import Derived.Test.YtmikfnmbjpfgnaaDoorRuns
namespace Go.Proofs.YtmikfnmbjpfgnaaDoor
open Go Go.RowKit Ax

theorem run3 : true = ([0, 1, 2, 3, 4, 5] : List Int).all fun c => sizeRun 3 c := by kernel_rfl

end Go.Proofs.YtmikfnmbjpfgnaaDoor
