/- What the runs of 'LotsSizes' are asked. Conditions: none. -/
import Derived.Test.YtmikfnmbjpfgnaaDoorTab
namespace Go.Proofs.YtmikfnmbjpfgnaaDoor
open Go Go.RowKit Ax

def anyJob : Value := .agg #[.map (some 4), .int .i64 0, .slice none 0 0, .int .i64 300, .int .i64 500]

/-- Named ints: wide, deep, n, n cut, n cut and one more. -/
def sizeLines (c1 c2 : Int) : List Line :=
  [⟨15, 0, 0, 8, .int .i64 c1⟩, ⟨15, 1, 0, 5, .int .i64 c2⟩, ⟨8, 0, 0, 8, .int .i64 c1⟩, ⟨8, 1, 0, 5, .int .i64 c2⟩, ⟨8, 2, 0, 10, sym 3⟩, ⟨9, 2, 300, 500, anyJob⟩, ⟨9, 3, 300, 500, anyJob⟩]

noncomputable def sizeRun (c1 c2 : Int) : Bool := saysTrue (acall Tryd.prog (lineTab (sizeLines c1 c2)) 400 3 #[sym 0, sym 1, sym 2] heap0 0)

end Go.Proofs.YtmikfnmbjpfgnaaDoor
